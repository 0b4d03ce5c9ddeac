/-
  What lies in memory while the sweep goes on: the heap, what is left, the slices; what the heap's functions do to it.
  No conditions.
-/
import Derived.Test.YtnfcigbiebbjdaaSwM
namespace Go.Proofs.Ytnfcigbiebbjdaa
open Go.RowKit

theorem jat_calm {l : List Jb} (hv : validB l = true) (i : Int) : 0 ≤ (jat l i).work ∧ (jat l i).work ≤ 10000 ∧ 0 ≤ (jat l i).due ∧ (jat l i).due ≤ 640000 ∧ 0 ≤ (jat l i).rel ∧ (jat l i).rel ≤ 640000 := by
  rcases jat_cases l i with e | ⟨k, _, hk⟩
  · rw [e]; decide
  · have h := hv
    unfold validB at h
    simp only [Bool.and_eq_true] at h
    have := allB_step hk h.2
    unfold jobB at this
    simp only [Bool.and_eq_true, decide_eq_true_eq] at this
    omega
theorem sumTo_cap {f : Int → Int} {c : Int} (h : ∀ i, f i ≤ c) : ∀ n : Nat, sumTo f n ≤ n * c
  | 0 => by simp [sumTo]
  | n + 1 => by
    have := sumTo_cap h n
    have := h n
    simp only [sumTo]
    rw [show ((n + 1 : Nat) : Int) * c = n * c + c by rw [show ((n + 1 : Nat) : Int) = n + 1 by omega, Int.add_mul]; omega]
    omega
theorem Sound.bound {l : List Jb} {n : Nat} {s : St} (hv : validB l = true) (hn : n ≤ 64) (h : Sound l n s) : s.now ≤ 1280000 := by
  have h1 := h.now1
  have h2 := sumTo_le (k := n) (f := fun _ => 0) (g := s.left) fun i _ => h.low i
  rw [sumTo_zero] at h2
  have h3 := sumTo_cap (f := fun i => (jat l i).work) (c := 10000) (fun i => (jat_calm hv i).2.1) n
  omega

/-- What stays, from the head of the sweep's loop on. -/
structure SwX (A : Option Addr) (n c : Nat) (l : List Jb) (w : World) (bx b Rc Lb : Nat) (d : List Int) (W0 : World) : Prop where
  n64 : n ≤ 64
  valid : validB l = true
  jobs : JobsH w A n l
  below : Below w.heap.size w W0
  box : Blk W0 bx 22 #[.slice A n c]
  come : RowH W0 (some ⟨Rc, 0, none⟩) n d
  perm : d.Perm (nums n)
  sorted : d.Pairwise fun x y => (jat l x).rel ≤ (jat l y).rel
  o1 : w.heap.size ≤ bx
  o2 : bx < Rc
  o3 : Rc < b
  o4 : b < Lb
  o5 : Lb < W0.heap.size
def SwT (W0 : World) (b Lb k : Nat) : Prop := k < W0.heap.size ∧ k ≠ b ∧ k ≠ Lb
/-- What changes: the heap holds L, f tells what is left, os are the slices. -/
structure SwW (n bx b Lb : Nat) (W0 wr : World) (v : Value) (L : List Int) (vo : Value) (f : Int → Int) (os : List Sl) : Prop where
  fix : Fix (SwT W0 b Lb) W0 wr
  heap : HeapA wr W0.heap.size b (.func (.func 65) #[] #[.pointer (some ⟨bx, 0, none⟩)]) v L
  left : RowT wr Lb n f
  out : OutO wr W0.heap.size vo os
theorem OutO.blk {w : World} {M : Nat} {v : Value} {os : List Sl} (h : OutO w M v os) {g : Nat} (hg : v.ownBlock = some g) : ∃ cs, Blk w g 52 cs := by
  rcases h.2 with ⟨h2, _⟩ | ⟨g', cap, cur, h2, h3, h4, _⟩
  · rw [h2] at hg; cases hg
  · rw [h2] at hg
    simp [Value.ownBlock] at hg
    subst hg
    exact ⟨cur, h4⟩
section
variable {A : Option Addr} {n c : Nat} {l : List Jb} {w : World} {bx b Rc Lb : Nat} {d : List Int} {W0 wr : World} {v : Value} {L : List Int} {vo : Value} {f : Int → Int} {os : List Sl}
theorem SwX.len (X : SwX A n c l w bx b Rc Lb d W0) : d.length = n := by rw [X.perm.length_eq, nums_length]
theorem SwX.nodup (X : SwX A n c l w bx b Rc Lb d W0) : d.Nodup := X.perm.nodup_iff.2 (nums_nodup n)
theorem SwW.size (h : SwW n bx b Lb W0 wr v L vo f os) : W0.heap.size ≤ wr.heap.size := h.fix.2.2.2.1
theorem SwW.apart (h : SwW n bx b Lb W0 wr v L vo f os) {g : Nat} (h1 : vo.ownBlock = some g) (h2 : v.ownBlock = some g) : False := by
  obtain ⟨cs, hb⟩ := h.out.blk h1
  exact absurd ((h.heap.typ h2).2.2 52 cs hb) (by decide)
theorem SwW.below (X : SwX A n c l w bx b Rc Lb d W0) (h : SwW n bx b Lb W0 wr v L vo f os) : Below w.heap.size w wr :=
  X.below.trans (h.fix.below fun k hk => ⟨by have := X.o1; have := X.o2; have := X.o3; have := X.o4; have := X.o5; omega, by have := X.o1; have := X.o2; have := X.o3; omega, by have := X.o1; have := X.o2; have := X.o3; have := X.o4; omega⟩)
theorem SwW.box (X : SwX A n c l w bx b Rc Lb d W0) (h : SwW n bx b Lb W0 wr v L vo f os) : Blk wr bx 22 #[.slice A n c] :=
  X.box.fix h.fix ⟨by have := X.o2; have := X.o3; have := X.o4; have := X.o5; omega, by have := X.o2; have := X.o3; omega, by have := X.o2; have := X.o3; have := X.o4; omega⟩
theorem SwW.come (X : SwX A n c l w bx b Rc Lb d W0) (h : SwW n bx b Lb W0 wr v L vo f os) : RowH wr (some ⟨Rc, 0, none⟩) n d :=
  X.come.fix h.fix fun _ g e => by
    cases e
    exact ⟨by have := X.o3; have := X.o4; have := X.o5; omega, by have := X.o3; omega, by have := X.o3; have := X.o4; omega⟩
theorem SwW.heapS (h : SwW n bx b Lb W0 wr v L vo f os) : HeapS (Oth wr b v) wr.heap.size W0.heap.size wr b (.func (.func 65) #[] #[.pointer (some ⟨bx, 0, none⟩)]) v L := h.heap.heapS
theorem SwW.own (h : SwW n bx b Lb W0 wr v L vo f os) {k : Nat} (hk : k < W0.heap.size) : v.ownBlock ≠ some k := fun e => by
  have := (h.heap.typ e).1
  omega
theorem SwW.oth (h : SwW n bx b Lb W0 wr v L vo f os) {k : Nat} (hk : k < W0.heap.size) (hb : k ≠ b) : Oth wr b v k :=
  ⟨Nat.lt_of_lt_of_le hk h.size, hb, h.own hk⟩
theorem SwW.heapTo (X : SwX A n c l w bx b Rc Lb d W0) (h : SwW n bx b Lb W0 wr v L vo f os) {w' : World} {v' : Value} {L' : List Int} (hf : Fix (Oth wr b v) wr w')
    (hh : HeapA w' W0.heap.size b (.func (.func 65) #[] #[.pointer (some ⟨bx, 0, none⟩)]) v' L') : SwW n bx b Lb W0 w' v' L' vo f os where
  fix := h.fix.trans (hf.sub fun k hk => h.oth hk.1 hk.2.1)
  heap := hh
  left := h.left.fix hf (h.oth X.o5 (by have := X.o4; omega))
  out := h.out.fix hf fun g hg => ⟨(h.out.typ hg).2.1, by have := (h.out.typ hg).1; have := X.o4; have := X.o5; omega, fun e => h.apart hg e⟩
theorem SwW.later (h : SwW n bx b Lb W0 wr v L vo f os) {w' : World} (hb : Below wr.heap.size wr w') : SwW n bx b Lb W0 w' v L vo f os where
  fix := h.fix.trans (Fix.of_below hb fun _ hk => Nat.lt_of_lt_of_le hk.1 h.size)
  heap := h.heap.fix (S := fun k => k < wr.heap.size) (Fix.of_below hb fun _ hk => hk) h.heap.1.lt fun _ hg => (h.heap.typ hg).2.1
  left := h.left.fix (S := fun k => k < wr.heap.size) (Fix.of_below hb fun _ hk => hk) h.left.lt
  out := h.out.fix (S := fun k => k < wr.heap.size) (Fix.of_below hb fun _ hk => hk) fun _ hg => (h.out.typ hg).2.1
theorem SwW.less (X : SwX A n c l w bx b Rc Lb d W0) (h : SwW n bx b Lb W0 wr v L vo f os) : LessC (Oth wr b v) wr 65 #[.pointer (some ⟨bx, 0, none⟩)] (urgLt l) (fun x => 0 ≤ x ∧ x < (n : Int)) :=
  urg_less (h.box X) (h.oth (by have := X.o2; have := X.o3; have := X.o4; have := X.o5; omega) (by have := X.o2; have := X.o3; omega)) X.jobs (h.below X) fun k hk =>
    h.oth (by have := X.o1; have := X.o2; have := X.o3; have := X.o4; have := X.o5; omega) (by have := X.o1; have := X.o2; have := X.o3; omega)
theorem SwW.push (X : SwX A n c l w bx b Rc Lb d W0) (h : SwW n bx b Lb W0 wr v L vo f os) (hD : ∀ x ∈ L, 0 ≤ x ∧ x < (n : Int)) (hL : L.length ≤ 900) (hP : HeapP (urgLt l) L L.length) (x : Int) (hx : 0 ≤ x ∧ x < (n : Int)) :
    Calls Try.prog 67 #[.iface 76 (.pointer (some ⟨b, 0, none⟩)), .iface 3 (.int .i64 x)] wr fun e w' => e = .returned (.tuple #[]) ∧ ∃ v' L', L'.Perm (x :: L) ∧ HeapP (urgLt l) L' L'.length ∧ SwW n bx b Lb W0 w' v' L' vo f os := by
  refine (push_h (urgLt_lt l) (fun k hk => hk.1) h.heapS (h.less X) hD x hx h.size hL hP).mono ?_
  rintro e w' ⟨rfl, v', L', h1, h2, h3, h4⟩
  exact ⟨rfl, v', L', h1, h2, h.heapTo X h4 (h3.heapA (by have := X.o4; have := X.o5; omega))⟩
theorem SwW.pop (X : SwX A n c l w bx b Rc Lb d W0) (h : SwW n bx b Lb W0 wr v L vo f os) (hD : ∀ x ∈ L, 0 ≤ x ∧ x < (n : Int)) (m : Nat) (hm : L.length = m + 1) (hL : m ≤ 900) (hP : HeapP (urgLt l) L L.length) :
    Calls Try.prog 70 #[.iface 76 (.pointer (some ⟨b, 0, none⟩))] wr fun e w' => ∃ r, e = .returned r ∧ ∃ v' L', (at_ L 0 :: L').Perm L ∧ HeapP (urgLt l) L' L'.length ∧ SwW n bx b Lb W0 w' v' L' vo f os := by
  refine (pop_h (urgLt_lt l) (fun k hk => hk.1) h.heapS (h.less X) hD m hm hL hP).mono ?_
  rintro e w' ⟨r, rfl, v', L', h1, h2, h3, h4⟩
  exact ⟨r, rfl, v', L', h1, h2, h.heapTo X h4 (h3.heapA (by have := X.o4; have := X.o5; omega))⟩
theorem SwW.outTo (X : SwX A n c l w bx b Rc Lb d W0) (h : SwW n bx b Lb W0 wr v L vo f os) {w' : World} {vo' : Value} {os' : List Sl} (hf : Fix (fun k => k < wr.heap.size ∧ vo.ownBlock ≠ some k) wr w')
    (ho : OutO w' W0.heap.size vo' os') : SwW n bx b Lb W0 w' v L vo' f os' := by
  have hlow : ∀ k, k < W0.heap.size → k < wr.heap.size ∧ vo.ownBlock ≠ some k := fun k hk => ⟨Nat.lt_of_lt_of_le hk h.size, fun e => by have := (h.out.typ e).1; omega⟩
  exact {
    fix := h.fix.trans (hf.sub fun k hk => hlow k hk.1)
    heap := h.heap.fix hf (hlow b (by have := X.o4; have := X.o5; omega)) fun g hg => ⟨(h.heap.typ hg).2.1, fun e => h.apart e hg⟩
    left := h.left.fix hf (hlow Lb X.o5)
    out := ho }
theorem SwW.leftTo (X : SwX A n c l w bx b Rc Lb d W0) (h : SwW n bx b Lb W0 wr v L vo f os) (i : Nat) (x : Int) : SwW n bx b Lb W0 (wr.setCell ⟨Lb, i, none⟩ (.int .i64 x)) v L vo (upd f i x) os := by
  have hf : Fix (fun k => k ≠ Lb) wr (wr.setCell ⟨Lb, i, none⟩ (.int .i64 x)) := (Fix.refl _ _).setCell (fun e => e rfl) _
  exact {
    fix := h.fix.trans (hf.sub fun k hk => hk.2.2)
    heap := h.heap.fix hf (by have := X.o4; omega) fun g hg => by have := (h.heap.typ hg).1; have := X.o5; omega
    left := h.left.set_ i x
    out := h.out.fix hf fun g hg => by have := (h.out.typ hg).1; have := X.o5; omega }
end
end Go.Proofs.Ytnfcigbiebbjdaa
