/-
  The document's sweep: what it knows of the jobs it has looked at; what lies in memory.
  No conditions.
-/
import Derived.Test.YtnfcigbiebbjdaaSwI
namespace Go.Proofs.Ytnfcigbiebbjdaa
open Go.RowKit

theorem OutO.short {w : World} {M : Nat} {v : Value} {os : List Sl} (h : OutO w M v os) : ∃ a c, v = .slice a os.length c := by
  rcases h.2 with ⟨h2, h3⟩ | ⟨g, cap, cur, h2, _⟩
  · exact ⟨none, 0, by rw [h2, h3]⟩
  · exact ⟨_, _, h2⟩
theorem new_sl (w : World) (z : Sl) : ∀ (j : Nat) (u : Value), (Sl.cells z)[j]? = some u → (w.alloc (.cells #[.int .i64 z.job, .int .i64 z.fr, .int .i64 z.till] 52)).cell? ((⟨w.heap.size, 0, none⟩ : Addr).add j) = some u := by
  intro j u h
  have h1 := (Blk.new w 52 #[.int .i64 z.job, .int .i64 z.fr, .int .i64 z.till]).cell j
  rw [Addr.add_lit, Nat.zero_add, h1, ← h]
  exact List.getElem?_toArray
/-- The one that is on among the first k; -1 if there is none. -/
def OnB (l : List Jb) (n : Nat) (s : St) (k : Nat) (x : Int) : Prop :=
  (x = -1 ∧ ∀ j : Nat, j < k → ¬ Ready l n s j) ∨ (∃ o : Nat, o < n ∧ x = o ∧ Ready l n s o ∧ ∀ j : Nat, j < k → Ready l n s j → (jat l o).due < (jat l j).due ∨ (jat l o).due = (jat l j).due ∧ o ≤ j)
/-- The next release among the first k; -1 if there is none. -/
def NxB (l : List Jb) (n : Nat) (s : St) (k : Nat) (x : Int) : Prop :=
  (x = -1 ∧ ∀ j : Nat, j < k → ¬ Waits l n s j) ∨ (0 ≤ x ∧ (∃ j : Nat, j < k ∧ Waits l n s j ∧ (jat l j).rel = x) ∧ ∀ j : Nat, j < k → Waits l n s j → x ≤ (jat l j).rel)
section
variable {l : List Jb} {n : Nat} {s : St} {k : Nat} {x : Int}
theorem OnB.skip (h : OnB l n s k x) (hk : ¬ Ready l n s k) : OnB l n s (k + 1) x := by
  rcases h with ⟨a, b⟩ | ⟨o, a, b, c, d⟩
  · exact .inl ⟨a, fun j hj => by
      by_cases e : j = k
      · subst e; exact hk
      · exact b j (by omega)⟩
  · exact .inr ⟨o, a, b, c, fun j hj hr => by
      by_cases e : j = k
      · subst e; exact (hk hr).elim
      · exact d j (by omega) hr⟩
theorem NxB.skip (h : NxB l n s k x) (hk : ¬ Waits l n s k) : NxB l n s (k + 1) x := by
  rcases h with ⟨a, b⟩ | ⟨a, ⟨o, b, c⟩, d⟩
  · exact .inl ⟨a, fun j hj => by
      by_cases e : j = k
      · subst e; exact hk
      · exact b j (by omega)⟩
  · exact .inr ⟨a, ⟨o, by omega, c⟩, fun j hj hr => by
      by_cases e : j = k
      · subst e; exact (hk hr).elim
      · exact d j (by omega) hr⟩
theorem OnB.first (h : OnB l n s k (-1)) (hkn : k < n) (hk : Ready l n s k) : OnB l n s (k + 1) k := by
  rcases h with ⟨_, b⟩ | ⟨o, _, b, _⟩
  · exact .inr ⟨k, hkn, rfl, hk, fun j hj hr => by
      by_cases e : j = k
      · subst e; exact .inr ⟨rfl, Nat.le_refl _⟩
      · exact (b j (by omega) hr).elim⟩
  · omega
theorem OnB.take_ {o : Nat} (h : OnB l n s k o) (hkn : k < n) (hk : Ready l n s k) (hd : (jat l k).due < (jat l o).due) : OnB l n s (k + 1) k := by
  rcases h with ⟨a, _⟩ | ⟨p, _, b, _, d⟩
  · omega
  · obtain rfl : o = p := by omega
    exact .inr ⟨k, hkn, rfl, hk, fun j hj hr => by
      by_cases e : j = k
      · subst e; exact .inr ⟨rfl, Nat.le_refl _⟩
      · have := d j (by omega) hr
        omega⟩
theorem OnB.keep {o : Nat} (h : OnB l n s k o) (hok : o ≤ k) (hd : ¬ (jat l k).due < (jat l o).due) : OnB l n s (k + 1) o := by
  rcases h with ⟨a, _⟩ | ⟨p, a, b, c, d⟩
  · omega
  · obtain rfl : o = p := by omega
    exact .inr ⟨o, a, rfl, c, fun j hj hr => by
      by_cases e : j = k
      · subst e; omega
      · exact d j (by omega) hr⟩
theorem NxB.first (h : NxB l n s k (-1)) (h0 : 0 ≤ (jat l k).rel) (hk : Waits l n s k) : NxB l n s (k + 1) (jat l k).rel := by
  rcases h with ⟨_, b⟩ | ⟨a, _⟩
  · exact .inr ⟨h0, ⟨k, by omega, hk, rfl⟩, fun j hj hr => by
      by_cases e : j = k
      · subst e; exact Int.le_refl _
      · exact (b j (by omega) hr).elim⟩
  · omega
theorem NxB.take_ (h : NxB l n s k x) (hx : 0 ≤ x) (h0 : 0 ≤ (jat l k).rel) (hk : Waits l n s k) (hd : (jat l k).rel < x) : NxB l n s (k + 1) (jat l k).rel := by
  rcases h with ⟨a, _⟩ | ⟨_, _, d⟩
  · omega
  · exact .inr ⟨h0, ⟨k, by omega, hk, rfl⟩, fun j hj hr => by
      by_cases e : j = k
      · subst e; exact Int.le_refl _
      · have := d j (by omega) hr
        omega⟩
theorem NxB.keep (h : NxB l n s k x) (hx : 0 ≤ x) (hd : ¬ (jat l k).rel < x) : NxB l n s (k + 1) x := by
  rcases h with ⟨a, _⟩ | ⟨_, ⟨o, b, c⟩, d⟩
  · omega
  · exact .inr ⟨hx, ⟨o, by omega, c⟩, fun j hj hr => by
      by_cases e : j = k
      · subst e; omega
      · exact d j (by omega) hr⟩
theorem nat_of {i : Int} (h : 0 ≤ i) : ∃ j : Nat, i = j := Int.eq_ofNat_of_zero_le h
theorem OnB.none_ (h : OnB l n s n (-1)) : NoOn l n s := by
  rcases h with ⟨_, b⟩ | ⟨o, _, b, _⟩
  · intro i hi
    obtain ⟨j, rfl⟩ := nat_of hi.1
    exact b j (by have := hi.2.1; omega) hi
  · omega
theorem OnB.some_ {o : Nat} (h : OnB l n s n o) : IsOn l n s o := by
  rcases h with ⟨a, _⟩ | ⟨p, _, b, c, d⟩
  · omega
  · obtain rfl : o = p := by omega
    refine ⟨c, fun i hi => ?_⟩
    obtain ⟨j, rfl⟩ := nat_of hi.1
    have := d j (by have := hi.2.1; omega) hi
    omega
theorem NxB.none_ (h : NxB l n s n (-1)) : NoNext l n s := by
  rcases h with ⟨_, b⟩ | ⟨a, _⟩
  · intro i hi
    obtain ⟨j, rfl⟩ := nat_of hi.1
    exact b j (by have := hi.2.1; omega) hi
  · omega
theorem NxB.some_ (h : NxB l n s n x) (hx : 0 ≤ x) : IsNext l n s x := by
  rcases h with ⟨a, _⟩ | ⟨_, ⟨o, _, b, c⟩, d⟩
  · omega
  · refine ⟨⟨o, b, c⟩, fun i hi => ?_⟩
    obtain ⟨j, rfl⟩ := nat_of hi.1
    exact d j (by have := hi.2.1; omega) hi
theorem OnB.cases (h : OnB l n s k x) : x = -1 ∨ ∃ o : Nat, x = o ∧ o < n ∧ Ready l n s o := by
  rcases h with ⟨a, _⟩ | ⟨o, a, b, c, _⟩
  · exact .inl a
  · exact .inr ⟨o, b, a, c⟩
theorem NxB.cases (h : NxB l n s k x) : x = -1 ∨ 0 ≤ x ∧ ∃ j : Nat, (jat l j).rel = x ∧ s.now < x := by
  rcases h with ⟨a, _⟩ | ⟨a, ⟨j, _, b, c⟩, _⟩
  · exact .inl a
  · exact .inr ⟨a, j, c, by have := b.2.2.2; omega⟩
/-- When a job was last worked at is not beyond now. -/
def FinB (s : St) : Prop := ∀ i, 0 ≤ s.fin i ∧ s.fin i ≤ s.now
theorem FinB.step {s' : St} (h : FinB s) (hS : Sound l n s) (hs : Step l n s s') : FinB s' := by
  cases hs with
  | idle x y =>
    rename_i t
    obtain ⟨j, hj, e⟩ := y.1
    have := hj.2.2.2
    intro i
    have := h i
    show 0 ≤ s.fin i ∧ s.fin i ≤ t
    omega
  | run x y =>
    rename_i i t
    have hp := Till.pos hS x y
    have := hS.now0
    intro j
    show 0 ≤ upd s.fin i t j ∧ upd s.fin i t j ≤ t
    have := h j
    unfold upd
    split <;> omega
theorem FinB.reach (hv : validB l = true) (hr : Reach l n (start l) s) : FinB s := by
  have h0 := Sound.start (n := n) (validB_fair hv)
  induction hr with
  | refl => exact fun i => ⟨Int.le_refl _, Int.le_refl _⟩
  | next hr hs ih => exact ih.step (h0.reach (fun i => (jat_calm hv i).2.2.2.2.2) hr) hs
theorem LateM.more {f : Int → Int} {m : Int} (h : LateM l k f m) : LateM l (k + 1) f (if k = 0 ∨ f k - (jat l k).due > m then f k - (jat l k).due else m) := by
  rcases h with ⟨a, b⟩ | ⟨⟨i, a, b⟩, c⟩
  · subst a
    rw [if_pos (.inl rfl)]
    exact .inr ⟨⟨0, by omega, rfl⟩, fun i hi => by
      obtain rfl : i = 0 := by omega
      exact Int.le_refl _⟩
  · right
    by_cases g : k = 0 ∨ f k - (jat l k).due > m
    · rw [if_pos g]
      refine ⟨⟨k, by omega, rfl⟩, fun j hj => ?_⟩
      by_cases e : j = k
      · subst e; exact Int.le_refl _
      · have := c j (by omega)
        omega
    · rw [if_neg g]
      refine ⟨⟨i, by omega, b⟩, fun j hj => ?_⟩
      by_cases e : j = k
      · subst e; omega
      · exact c j (by omega)
end

/-- What lies in memory while the document's sweep goes on. -/
structure RfW (w : World) (n Lg Dg : Nat) (wr : World) (vo : Value) (f h : Int → Int) (os : List Sl) : Prop where
  below : Below w.heap.size w wr
  left : RowT wr Lg n f
  done : RowT wr Dg n h
  out : OutO wr w.heap.size vo os
  o1 : w.heap.size ≤ Lg
  o2 : w.heap.size ≤ Dg
  ne : Lg ≠ Dg
theorem RowT.typ {w : World} {R n t : Nat} {f : Int → Int} {cs : Array Value} (h : RowT w R n f) (hb : Blk w R t cs) : t = 3 := by
  obtain ⟨rest, h⟩ := h
  unfold Blk at h hb
  rw [h] at hb
  injection hb with hb
  injection hb with _ ht
  exact ht.symm
theorem OutO.apart {w : World} {M R n : Nat} {v : Value} {os : List Sl} {f : Int → Int} (h : OutO w M v os) (hR : RowT w R n f) : v.ownBlock ≠ some R := fun e => by
  obtain ⟨cs, hb⟩ := h.blk e
  exact absurd (hR.typ hb) (by decide)
theorem fix_app {wr w' : World} {v : Value} {b0 : Obj} (hg : (wr.alloc b0).grownBy w' v.ownBlock) : Fix (fun k => k < wr.heap.size ∧ v.ownBlock ≠ some k) wr w' :=
  (Fix.of_below ((Below.refl _ _).alloc (Nat.le_refl _) b0) (fun k hk => hk.1)).grown hg (fun k hk => hk.1) (by simp) (fun k hk hS => hS.2 hk)
section
variable {w : World} {n Lg Dg : Nat} {wr w' : World} {vo vo' : Value} {f h : Int → Int} {os os' : List Sl}
theorem RfW.later (H : RfW w n Lg Dg wr vo f h os) (hb : Below wr.heap.size wr w') : RfW w n Lg Dg w' vo f h os where
  below := H.below.trans (hb.mono H.below.size)
  left := H.left.later hb
  done := H.done.later hb
  out := H.out.fix (S := fun k => k < wr.heap.size) (Fix.of_below hb fun _ hk => hk) fun _ hg => (H.out.typ hg).2.1
  o1 := H.o1
  o2 := H.o2
  ne := H.ne
theorem RfW.leftTo (H : RfW w n Lg Dg wr vo f h os) (i : Nat) (x : Int) : RfW w n Lg Dg (wr.setCell ⟨Lg, i, none⟩ (.int .i64 x)) vo (upd f i x) h os := by
  have hf : Fix (fun k => k ≠ Lg) wr (wr.setCell ⟨Lg, i, none⟩ (.int .i64 x)) := (Fix.refl _ _).setCell (fun e => e rfl) _
  exact {
    below := H.below.trans (hf.below fun k hk e => by have := H.o1; omega)
    left := H.left.set_ i x
    done := H.done.fix hf (fun e => H.ne e.symm)
    out := H.out.fix hf fun g hg e => H.out.apart H.left (e ▸ hg)
    o1 := H.o1, o2 := H.o2, ne := H.ne }
theorem RfW.doneTo (H : RfW w n Lg Dg wr vo f h os) (i : Nat) (x : Int) : RfW w n Lg Dg (wr.setCell ⟨Dg, i, none⟩ (.int .i64 x)) vo f (upd h i x) os := by
  have hf : Fix (fun k => k ≠ Dg) wr (wr.setCell ⟨Dg, i, none⟩ (.int .i64 x)) := (Fix.refl _ _).setCell (fun e => e rfl) _
  exact {
    below := H.below.trans (hf.below fun k hk e => by have := H.o2; omega)
    left := H.left.fix hf H.ne
    done := H.done.set_ i x
    out := H.out.fix hf fun g hg e => H.out.apart H.done (e ▸ hg)
    o1 := H.o1, o2 := H.o2, ne := H.ne }
theorem RfW.outTo (H : RfW w n Lg Dg wr vo f h os) (hf : Fix (fun k => k < wr.heap.size ∧ vo.ownBlock ≠ some k) wr w') (ho : OutO w' w.heap.size vo' os') : RfW w n Lg Dg w' vo' f h os' where
  below := H.below.trans (hf.below fun k hk => ⟨Nat.lt_of_lt_of_le hk H.below.size, fun e => by have := (H.out.typ e).1; omega⟩)
  left := H.left.fix hf ⟨H.left.lt, H.out.apart H.left⟩
  done := H.done.fix hf ⟨H.done.lt, H.out.apart H.done⟩
  out := ho
  o1 := H.o1
  o2 := H.o2
  ne := H.ne
theorem RfW.appTo (H : RfW w n Lg Dg wr vo f h os) {b0 : Obj} (ho : OutO w' w.heap.size vo' os') (hg : (wr.alloc b0).grownBy w' vo.ownBlock) : RfW w n Lg Dg w' vo' f h os' :=
  H.outTo (fix_app hg) ho
theorem RfW.lastTo {g q : Nat} {s : Sl} (H : RfW w n Lg Dg wr (.slice (some ⟨g, 0, none⟩) (os.length + 1) q) f h (os ++ [s])) (x : Int) :
    RfW w n Lg Dg (wr.setCell ⟨g, os.length * 3 + 2, none⟩ (.int .i64 x)) (.slice (some ⟨g, 0, none⟩) (os.length + 1) q) f h (os ++ [⟨s.job, s.fr, x⟩]) :=
  H.outTo ((Fix.refl _ _).setCell (fun e => e.2 rfl) _) (H.out.setLast x)
end
end Go.Proofs.Ytnfcigbiebbjdaa
