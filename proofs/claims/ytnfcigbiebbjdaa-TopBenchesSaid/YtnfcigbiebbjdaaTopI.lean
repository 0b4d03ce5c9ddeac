/-
  Three rows in the making: jobs, and two rows of numbers. What lies in memory.
  No conditions.
-/
import Derived.Test.YtnfcigbiebbjdaaMoreI
import Derived.Test.YtnfcigbiebbjdaaTopP
namespace Go.Proofs.Ytnfcigbiebbjdaa
open Go.RowKit

theorem fold_top (v n : Int) (w : World) (h1 : 1 ≤ n) (h2 : n ≤ 4000000) :
    Calls Try.prog 33 #[.int .i64 v, .int .i64 n] w fun e w' => e = .returned (.int .i64 (v % n)) ∧ w = w' := by
  go_enter Try.func33, Try.ntmps33
  go_wp2
  go_ret
  exact ⟨ret_int (fold_eq v n h1 h2), rfl⟩
/-- Three rows, the first one of jobs; block b holds the job that is added. -/
structure Tri (W0 V : World) (b : Nat) (jc : Array Value) (v1 v2 v3 : Value) (n1 n2 n3 : Nat) (x1 x2 x3 : List Value) : Prop where
  r1 : V.ownsRow W0.heap.size 43 5 v1 n1 x1
  r2 : V.ownsRow W0.heap.size 3 1 v2 n2 x2
  r3 : V.ownsRow W0.heap.size 3 1 v3 n3 x3
  n12 : ∀ g, v1.ownBlock = some g → v2.ownBlock ≠ some g
  n13 : ∀ g, v1.ownBlock = some g → v3.ownBlock ≠ some g
  n23 : ∀ g, v2.ownBlock = some g → v3.ownBlock ≠ some g
  hb : Below W0.heap.size W0 V
  blk : Blk V b 43 jc
  k1 : v1.ownBlock ≠ some b
  k2 : v2.ownBlock ≠ some b
  k3 : v3.ownBlock ≠ some b
/-- What is to be appended, in a block of its own. -/
structure Src3 (V : World) (b t : Nat) (cs : Array Value) (v1 v2 v3 : Value) : Prop where
  blk : Blk V b t cs
  k1 : v1.ownBlock ≠ some b
  k2 : v2.ownBlock ≠ some b
  k3 : v3.ownBlock ≠ some b
theorem Src3.news {V : World} {b t : Nat} {cs : Array Value} {v1 v2 v3 : Value} (h : Src3 V b t cs v1 v2 v3) : ∀ j u, cs.toList[j]? = some u → V.cell? ((⟨b, 0, none⟩ : Addr).add j) = some u := fun j u hj => by
  have := h.blk.cell j
  rw [Addr.add_lit, Nat.zero_add, this, ← hj, Array.getElem?_toList]
section
variable {W0 V V' : World} {b : Nat} {jc : Array Value} {v1 v2 v3 : Value} {n1 n2 n3 : Nat} {x1 x2 x3 : List Value}
theorem ne_kept {row own : Option Nat} (h : ∀ g, row = some g → own ≠ some g) : own = none ∨ own ≠ row := by
  cases ho : own with
  | none => exact .inl rfl
  | some a => exact .inr fun he => h a he.symm ho
theorem ne_kept' {row own : Option Nat} (h : ∀ g, own = some g → row ≠ some g) : own = none ∨ own ≠ row := by
  cases ho : own with
  | none => exact .inl rfl
  | some a => exact .inr fun he => h a ho he.symm
theorem Tri.size (h : Tri W0 V b jc v1 v2 v3 n1 n2 n3 x1 x2 x3) : W0.heap.size ≤ V.heap.size := h.hb.size
theorem Tri.later (h : Tri W0 V b jc v1 v2 v3 n1 n2 n3 x1 x2 x3) (hl : Below V.heap.size V V') : Tri W0 V' b jc v1 v2 v3 n1 n2 n3 x1 x2 x3 :=
  ⟨own_later h.r1 hl, own_later h.r2 hl, own_later h.r3 hl, h.n12, h.n13, h.n23, h.hb.trans (hl.mono h.hb.size), h.blk.later hl, h.k1, h.k2, h.k3⟩
theorem Tri.build (h : Tri W0 V b jc v1 v2 v3 n1 n2 n3 x1 x2 x3) (t : Nat) (cs : Array Value) :
    Tri W0 (V.alloc (.cells cs t)) b jc v1 v2 v3 n1 n2 n3 x1 x2 x3 ∧ Src3 (V.alloc (.cells cs t)) V.heap.size t cs v1 v2 v3 :=
  ⟨h.later ((Below.refl _ _).alloc (Nat.le_refl _) _), Blk.new V t cs, fun e => absurd (h.r1.lt _ e).2 (Nat.lt_irrefl _), fun e => absurd (h.r2.lt _ e).2 (Nat.lt_irrefl _), fun e => absurd (h.r3.lt _ e).2 (Nat.lt_irrefl _)⟩
theorem Src3.build {c t : Nat} {cs : Array Value} (h : Src3 V c t cs v1 v2 v3) (o : Obj) : Src3 (V.alloc o) c t cs v1 v2 v3 := ⟨h.blk.later ((Below.refl _ _).alloc (Nat.le_refl _) o), h.k1, h.k2, h.k3⟩
/-- Where an append's block is new or the row's own. -/
theorem at_ne {own : Option Nat} {g c : Nat} (hat : own = some g ∨ g = V.heap.size) (h1 : own ≠ some c) (h2 : c < V.heap.size) : g ≠ c := by
  rintro rfl
  rcases hat with h | h
  · exact h1 h
  · omega
theorem own_lt {t s n : Nat} {v : Value} {xs : List Value} {B : Nat} (h : V.ownsRow B t s v n xs) {g : Nat} (e : v.ownBlock = some g) : g < V.heap.size := (h.lt g e).2
theorem Tri.app1 {g cap : Nat} {y : List Value} (h : Tri W0 V b jc v1 v2 v3 n1 n2 n3 x1 x2 x3) (hown : V'.ownsRow W0.heap.size 43 5 (.slice (some ⟨g, 0, none⟩) (n1 + 1) cap) (n1 + 1) (x1 ++ y)) (hgr : V.grownBy V' v1.ownBlock) (hat : v1.ownBlock = some g ∨ g = V.heap.size) :
    Tri W0 V' b jc (.slice (some ⟨g, 0, none⟩) (n1 + 1) cap) v2 v3 (n1 + 1) n2 n3 (x1 ++ y) x2 x3 where
  r1 := hown
  r2 := h.r2.kept hgr (ne_kept h.n12)
  r3 := h.r3.kept hgr (ne_kept h.n13)
  n12 := fun g' hg he => by
    have e : g = g' := by injection hg
    subst e
    rcases hat with h1 | h1
    · exact h.n12 g h1 he
    · have := own_lt h.r2 he
      omega
  n13 := fun g' hg he => by
    have e : g = g' := by injection hg
    subst e
    rcases hat with h1 | h1
    · exact h.n13 g h1 he
    · have := own_lt h.r3 he
      omega
  n23 := h.n23
  hb := h.hb.grown hgr h.hb.size (fun q hq => (h.r1.lt q hq).1)
  blk := blk_grown h.blk hgr h.k1
  k1 := fun e => at_ne hat h.k1 h.blk.lt (by injection e)
  k2 := h.k2
  k3 := h.k3
theorem Tri.app2 {g cap : Nat} {y : List Value} (h : Tri W0 V b jc v1 v2 v3 n1 n2 n3 x1 x2 x3) (hown : V'.ownsRow W0.heap.size 3 1 (.slice (some ⟨g, 0, none⟩) (n2 + 1) cap) (n2 + 1) (x2 ++ y)) (hgr : V.grownBy V' v2.ownBlock) (hat : v2.ownBlock = some g ∨ g = V.heap.size) :
    Tri W0 V' b jc v1 (.slice (some ⟨g, 0, none⟩) (n2 + 1) cap) v3 n1 (n2 + 1) n3 x1 (x2 ++ y) x3 where
  r1 := h.r1.kept hgr (ne_kept' h.n12)
  r2 := hown
  r3 := h.r3.kept hgr (ne_kept h.n23)
  n12 := fun g' hg he => by
    have e : g = g' := by injection he
    subst e
    rcases hat with h1 | h1
    · exact h.n12 g hg h1
    · have := own_lt h.r1 hg
      omega
  n13 := h.n13
  n23 := fun g' hg he => by
    have e : g = g' := by injection hg
    subst e
    rcases hat with h1 | h1
    · exact h.n23 g h1 he
    · have := own_lt h.r3 he
      omega
  hb := h.hb.grown hgr h.hb.size (fun q hq => (h.r2.lt q hq).1)
  blk := blk_grown h.blk hgr h.k2
  k1 := h.k1
  k2 := fun e => at_ne hat h.k2 h.blk.lt (by injection e)
  k3 := h.k3
theorem Tri.app3 {g cap : Nat} {y : List Value} (h : Tri W0 V b jc v1 v2 v3 n1 n2 n3 x1 x2 x3) (hown : V'.ownsRow W0.heap.size 3 1 (.slice (some ⟨g, 0, none⟩) (n3 + 1) cap) (n3 + 1) (x3 ++ y)) (hgr : V.grownBy V' v3.ownBlock) (hat : v3.ownBlock = some g ∨ g = V.heap.size) :
    Tri W0 V' b jc v1 v2 (.slice (some ⟨g, 0, none⟩) (n3 + 1) cap) n1 n2 (n3 + 1) x1 x2 (x3 ++ y) where
  r1 := h.r1.kept hgr (ne_kept' h.n13)
  r2 := h.r2.kept hgr (ne_kept' h.n23)
  r3 := hown
  n12 := h.n12
  n13 := fun g' hg he => by
    have e : g = g' := by injection he
    subst e
    rcases hat with h1 | h1
    · exact h.n13 g hg h1
    · have := own_lt h.r1 hg
      omega
  n23 := fun g' hg he => by
    have e : g = g' := by injection he
    subst e
    rcases hat with h1 | h1
    · exact h.n23 g hg h1
    · have := own_lt h.r2 hg
      omega
  hb := h.hb.grown hgr h.hb.size (fun q hq => (h.r3.lt q hq).1)
  blk := blk_grown h.blk hgr h.k3
  k1 := h.k1
  k2 := h.k2
  k3 := fun e => at_ne hat h.k3 h.blk.lt (by injection e)
theorem Src3.app1 {c t g cap n : Nat} {cs : Array Value} (h : Src3 V c t cs v1 v2 v3) (hgr : V.grownBy V' v1.ownBlock) (hat : v1.ownBlock = some g ∨ g = V.heap.size) : Src3 V' c t cs (.slice (some ⟨g, 0, none⟩) n cap) v2 v3 :=
  ⟨blk_grown h.blk hgr h.k1, fun e => at_ne hat h.k1 h.blk.lt (by injection e), h.k2, h.k3⟩
theorem Src3.app2 {c t g cap n : Nat} {cs : Array Value} (h : Src3 V c t cs v1 v2 v3) (hgr : V.grownBy V' v2.ownBlock) (hat : v2.ownBlock = some g ∨ g = V.heap.size) : Src3 V' c t cs v1 (.slice (some ⟨g, 0, none⟩) n cap) v3 :=
  ⟨blk_grown h.blk hgr h.k2, h.k1, fun e => at_ne hat h.k2 h.blk.lt (by injection e), h.k3⟩
theorem Src3.app3 {c t g cap n : Nat} {cs : Array Value} (h : Src3 V c t cs v1 v2 v3) (hgr : V.grownBy V' v3.ownBlock) (hat : v3.ownBlock = some g ∨ g = V.heap.size) : Src3 V' c t cs v1 v2 (.slice (some ⟨g, 0, none⟩) n cap) :=
  ⟨blk_grown h.blk hgr h.k3, h.k1, h.k2, fun e => at_ne hat h.k3 h.blk.lt (by injection e)⟩
end
/-- A job that the law makes. -/
def mkJ (x d : Int) : Jb := ⟨x, 0, d, 1, []⟩
/-- The jobs of the law: their works, their dues. -/
def mkJs (p : List (Int × Int)) : List Jb := p.map fun x => mkJ x.1 x.2
def TopOk (p : List (Int × Int)) : Prop := ∀ x ∈ p, 1 ≤ x.1 ∧ x.1 ≤ 50 ∧ 0 ≤ x.2 ∧ x.2 ≤ 399
def nils (k : Nat) : List Value := List.replicate k (.slice none 0 0)
theorem mkJs_snoc (p : List (Int × Int)) (x d : Int) : jflat (mkJs (p ++ [(x, d)])) (nils (p.length + 1)) = jflat (mkJs p) (nils p.length) ++ [.int .i64 x, .int .i64 0, .int .i64 d, .int .i64 1, .slice none 0 0] := by
  unfold mkJs nils
  rw [List.map_append, List.replicate_succ', List.map_cons, List.map_nil, jflat_snoc (by simp)]
  rfl
theorem afters_nil (w : World) (p : List (Int × Int)) : Afters w (nils p.length) ((mkJs p).map Jb.after) := by
  refine ⟨by simp [nils, mkJs], fun k l hk => ?_⟩
  have hk2 := (List.getElem?_eq_some_iff.1 hk).1
  simp [mkJs] at hk2
  refine ⟨.slice none 0 0, by simp [nils, hk2], ?_⟩
  obtain rfl : l = [] := by
    unfold mkJs at hk
    rw [List.map_map, List.getElem?_map, List.getElem?_eq_getElem hk2] at hk
    simpa [mkJ] using hk.symm
  exact World.ownsRow_nil _ _ _ _
theorem mkJs_plain {p : List (Int × Int)} (h : TopOk p) (hl : p.length ≤ 64) : Plain (mkJs p) p.length := by
  have hg : ∀ (k : Nat) (j : Jb), (mkJs p)[k]? = some j → ∃ x ∈ p, j = mkJ x.1 x.2 := fun k j hk => by
    unfold mkJs at hk
    rw [List.getElem?_map] at hk
    cases hx : p[k]? with
    | none => rw [hx] at hk; cases hk
    | some x =>
      rw [hx] at hk
      simp only [Option.map_some, Option.some.injEq] at hk
      exact ⟨x, List.mem_of_getElem? hx, hk.symm⟩
  have hlen : (mkJs p).length = p.length := by simp [mkJs]
  have hat : ∀ i : Int, 0 ≤ i → i < p.length → ∃ x ∈ p, jat (mkJs p) i = mkJ x.1 x.2 := fun i i0 i1 => by
    obtain ⟨k, rfl⟩ := Int.eq_ofNat_of_zero_le i0
    have hk : k < (mkJs p).length := by omega
    have h2 : (mkJs p)[k]? = some (mkJs p)[k] := List.getElem?_eq_getElem hk
    obtain ⟨x, hx, e⟩ := hg k _ h2
    exact ⟨x, hx, by rw [jat_get h2, e]⟩
  refine ⟨hlen, validB_of (by omega) fun k j hk => ?_, fun i i0 i1 => ?_, fun i i0 i1 => ?_, fun i i0 i1 => ?_, fun i => ?_⟩
  · obtain ⟨x, hx, rfl⟩ := hg k j hk
    have := h x hx
    unfold jobB mkJ
    simp only [Bool.and_eq_true, decide_eq_true_eq]
    exact ⟨by omega, rfl⟩
  · obtain ⟨x, _, e⟩ := hat i i0 i1
    rw [e]; rfl
  · obtain ⟨x, _, e⟩ := hat i i0 i1
    rw [e]; rfl
  · obtain ⟨x, hx, e⟩ := hat i i0 i1
    rw [e]
    exact (h x hx).1
  · rcases jat_cases (mkJs p) i with e | ⟨k, _, hk⟩
    · rw [e]; rfl
    · obtain ⟨x, _, e⟩ := hg k _ hk
      rw [e]; rfl
end Go.Proofs.Ytnfcigbiebbjdaa
