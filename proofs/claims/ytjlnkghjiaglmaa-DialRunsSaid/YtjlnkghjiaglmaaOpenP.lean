/-
  An argument that is a slice of pushes, opened to its row.
  No conditions.
-/
import Derived.Test.YtjlnkghjiaglmaaOpens
import Derived.Test.YtjlnkghjiaglmaaCopy2
import Derived.Deep.SlicePairs
namespace Go.Proofs.Ytjlnkghjiaglmaa
open Go.ChangeShapes Go.WideShapes Go.ChangeAt Go.RowKit Go.Joins Go.Deep

section
variable {H : Type} {enc : TypeId × Value → H} {w : World} {base : Nat} {spare : Nat → Bool} {held : Bool}
theorem Try.cells36 : Try.prog.cellsOf 36 = 2 := by kernel_rfl
theorem Try.cells3 : Try.prog.cellsOf 3 = 1 := by kernel_rfl
theorem choose_row {V : Nat → Value} : ∀ (n : Nat), (∀ i, i < n → ∃ a : Int, V i = .int .i64 a) → ∃ f : Nat → Int, ∀ i, i < n → V i = .int .i64 (f i)
  | 0, _ => ⟨fun _ => 0, fun i h => absurd h (by omega)⟩
  | n + 1, h => by
    obtain ⟨f, hf⟩ := choose_row n (fun i hi => h i (by omega))
    obtain ⟨a, ha⟩ := h n (by omega)
    refine ⟨fun i => if i = n then a else f i, fun i hi => ?_⟩
    by_cases e : i = n
    · subst e
      simpa using ha
    · simp only [if_neg e]
      exact hf i (by omega)
theorem open_P {r : Reach} {b0 : Nat} {v : Value} {d : DataW H} {p : List MemPlace} (hv : Value.okWide Try.prog w r b0 33 v) (h : DataW.Trod enc Try.prog w base spare held 33 v d p) :
    ∃ (A : Option Addr) (n cap : Nat) (l : List (Int × Int)), v = .slice A n cap ∧ RowA w A n l ∧ n ≤ cap ∧ cap ≤ maxLen ∧ (A = none → cap = 0) := by
  obtain ⟨A, n, cap, rfl⟩ := okWide_slice Try.underlying33 hv
  obtain ⟨fuel, hf⟩ := h
  rcases open_slice_pairs Try.underlying33 Try.underlying36 Try.cells36 rfl rfl Try.cells3 Try.cells3 hf with ⟨h0, _⟩ | ⟨a, len, cap', m, k, V0, V1, D0, D1, P0, P1, hcs, hb, hl, hm, hmm, _, hi⟩
  · simp [Value.cells] at h0
    obtain ⟨rfl, rfl, rfl⟩ := h0
    exact ⟨none, 0, 0, [], rfl, ⟨rfl, fun h => absurd h (by omega)⟩, Nat.le_refl _, Nat.zero_le _, fun _ => rfl⟩
  · simp [Value.cells] at hcs
    obtain ⟨rfl, rfl, rfl⟩ := hcs
    have hlm : n ≤ m := by rw [hmm]; split <;> omega
    obtain ⟨f, hf0⟩ := choose_row (V := V0) n (fun i hi' => int_of (hi i (by omega)).2.2.1)
    obtain ⟨g, hg0⟩ := choose_row (V := V1) n (fun i hi' => int_of (hi i (by omega)).2.2.2)
    refine ⟨some a, n, cap, (List.range n).map fun i => (f i, g i), rfl, ⟨by simp, fun hn => ⟨a, rfl, ?_, fun k t b hk => ?_⟩⟩, hl, hm, fun h => by cases h⟩
    · have := (hi 0 (by omega)).1
      rw [Nat.zero_mul] at this
      have e : a.add 0 = a := rfl
      rw [e] at this
      exact World.block_lt_of_cell? _ _ this
    · have hkn : k < n := by
        have := (List.getElem?_eq_some_iff.1 hk).1
        simpa using this
      rw [List.getElem?_map, List.getElem?_range hkn] at hk
      simp at hk
      obtain ⟨rfl, rfl⟩ := hk
      exact ⟨by rw [(hi k (by omega)).1, hf0 k hkn], by rw [(hi k (by omega)).2.1, hg0 k hkn]⟩
end
end Go.Proofs.Ytjlnkghjiaglmaa
