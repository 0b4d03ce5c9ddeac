/-
  The plain mathematics of a stable sort: insertion, and the merge of two runs in place. No program in sight.
  No conditions.
-/
import Derived.Test.YtnfcigbiebbjdaaOrds
namespace Go.Proofs.Ytnfcigbiebbjdaa

/-- A total order that a comparison agrees with on what came earlier (x) and later (y). -/
structure TotLe (le : Int → Int → Prop) : Prop where
  total : ∀ x y, le x y ∨ le y x
  trans : ∀ x y z, le x y → le y z → le x z

section
variable {le : Int → Int → Prop} (T : TotLe le)
/-- x has come to stand behind S1 and ahead of S2. -/
theorem ins_sorted {S1 S2 : List Int} {x : Int} (h : (S1 ++ S2).Pairwise le) (h2 : ∀ s ∈ S2, le x s) (h1 : ∀ s ∈ S1, le s x) : (S1 ++ x :: S2).Pairwise le := by
  rw [List.pairwise_append] at h ⊢
  refine ⟨h.1, List.pairwise_cons.2 ⟨h2, h.2.1⟩, fun a ha b hb => ?_⟩
  rcases List.mem_cons.1 hb with rfl | hb
  · exact h1 a ha
  · exact h.2.2 a ha b hb
include T in
/-- All of a sorted list are before x if the last one is. -/
theorem all_before {S : List Int} {s x : Int} (h : (S ++ [s]).Pairwise le) (hs : le s x) : ∀ a ∈ S ++ [s], le a x := fun a ha => by
  rcases List.mem_append.1 ha with ha | ha
  · exact T.trans a s x ((List.pairwise_append.1 h).2.2 a ha s (by simp)) hs
  · obtain rfl : a = s := by simpa using ha
    exact hs
include T in
theorem all_behind {S : List Int} {s x : Int} (h : (s :: S).Pairwise le) (hs : le x s) : ∀ a ∈ s :: S, le x a := fun a ha => by
  rcases List.mem_cons.1 ha with rfl | ha
  · exact hs
  · exact T.trans x s a hs ((List.pairwise_cons.1 h).1 a ha)
/-- Two runs: each is cut so that the first parts come before the second ones. -/
theorem merge_cut {A1 A2 B1 B2 C1 C2 : List Int} (hA : (A1 ++ A2).Pairwise le) (hB : (B1 ++ B2).Pairwise le) (h1 : ∀ a ∈ A1, ∀ b ∈ B2, le a b) (h2 : ∀ b ∈ B1, ∀ a ∈ A2, le b a)
    (p1 : C1.Perm (A1 ++ B1)) (p2 : C2.Perm (A2 ++ B2)) (s1 : C1.Pairwise le) (s2 : C2.Pairwise le) : (C1 ++ C2).Pairwise le ∧ (C1 ++ C2).Perm ((A1 ++ A2) ++ (B1 ++ B2)) := by
  constructor
  · refine List.pairwise_append.2 ⟨s1, s2, fun x hx y hy => ?_⟩
    have hx' := p1.mem_iff.1 hx
    have hy' := p2.mem_iff.1 hy
    rcases List.mem_append.1 hx' with a | b <;> rcases List.mem_append.1 hy' with c | d
    · exact (List.pairwise_append.1 hA).2.2 x a y c
    · exact h1 x a y d
    · exact h2 x b y c
    · exact (List.pairwise_append.1 hB).2.2 x b y d
  · refine (p1.append p2).trans ?_
    rw [List.append_assoc, List.append_assoc]
    refine List.Perm.append_left A1 ?_
    rw [← List.append_assoc, ← List.append_assoc]
    exact List.Perm.append_right B2 List.perm_append_comm
end
/-- Two neighbours exchanged. -/
theorem swap_next (P Q : List Int) (s x : Int) : ((P ++ s :: x :: Q).set P.length x).set (P.length + 1) s = P ++ x :: s :: Q := by
  rw [List.set_append_right _ _ (Nat.le_refl _), Nat.sub_self, List.set_cons_zero, List.set_append_right _ _ (by omega), show P.length + 1 - P.length = 1 by omega]
  rfl
theorem at_mid (P Q : List Int) (x : Int) : (P ++ x :: Q)[P.length]? = some x := by simp
theorem at_mid1 (P Q : List Int) (s x : Int) : (P ++ s :: x :: Q)[P.length + 1]? = some x := by
  rw [List.getElem?_append_right (by omega), show P.length + 1 - P.length = 1 by omega]
  rfl
end Go.Proofs.Ytnfcigbiebbjdaa
