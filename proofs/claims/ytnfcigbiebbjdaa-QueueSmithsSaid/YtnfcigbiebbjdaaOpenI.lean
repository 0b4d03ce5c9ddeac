/-
  Arguments that are slices of integers, opened to their rows.
  No conditions.
-/
import Derived.Test.YtnfcigbiebbjdaaFrame
import Derived.Test.YtnfcigbiebbjdaaInts
import Derived.Lib.SmallJoins
import Derived.Deep.Slices
namespace Go.Proofs.Ytnfcigbiebbjdaa
open Go.ChangeShapes Go.WideShapes Go.ChangeAt Go.RowKit Go.Joins Go.Deep

section
variable {H : Type} {enc : TypeId × Value → H} {w : World} {base : Nat} {spare : Nat → Bool} {held : Bool}
theorem Try.cells3 : Try.prog.cellsOf 3 = 1 := by kernel_rfl
theorem int_of {n : Nat} {v : Value} {y : DataW H × List MemPlace} (h : DataW.trod enc Try.prog w base spare held n 3 [v] = some y) : ∃ a : Int, v = .int .i64 a := by
  obtain ⟨a, e, _, _⟩ := DataW.trod_int Try.underlying3 h
  exact ⟨a, by simpa using e⟩
theorem choose_row {V : Nat → Value} : ∀ (n : Nat), (∀ i, i < n → ∃ a : Int, V i = .int .i64 a) → ∃ f : Nat → Int, ∀ i, i < n → V i = .int .i64 (f i)
  | 0, _ => ⟨fun _ => 0, fun i h => absurd h (by omega)⟩
  | n + 1, h => by
    obtain ⟨f, hf⟩ := choose_row n (fun i hi => h i (by omega))
    obtain ⟨a, ha⟩ := h n (by omega)
    refine ⟨fun i => if i = n then a else f i, fun i hi => ?_⟩
    by_cases e : i = n
    · subst e
      simpa using ha
    · simp only [if_neg e]
      exact hf i (by omega)
/-- The cells of a slice of integers, wherever it lies. -/
theorem open_Ic {fuel : Nat} {cs : List Value} {y : DataW H × List MemPlace} (h : DataW.trod enc Try.prog w base spare held fuel 23 cs = some y) :
    ∃ (A : Option Addr) (n cap : Nat) (l : List Int), cs = [.slice A n cap] ∧ RowI w A n l ∧ n ≤ cap ∧ cap ≤ maxLen ∧ (A = none → cap = 0) := by
  rcases open_slice1 Try.underlying23 Try.cells3 h with ⟨h0, _⟩ | ⟨a, len, cap, m, k, V, D, Pl, hcs, hb, hl, hm, hmm, _, hi⟩
  · exact ⟨none, 0, 0, [], h0, RowI.nil _ _, Nat.le_refl _, Nat.zero_le _, fun _ => rfl⟩
  · have hlm : len ≤ m := by rw [hmm]; split <;> omega
    obtain ⟨f, hf⟩ := choose_row (V := V) len (fun i hi' => int_of (hi i (by omega)).2)
    refine ⟨some a, len, cap, (List.range len).map f, hcs, ⟨by simp, fun hn => ⟨a, rfl, ?_, fun k v hk => ?_⟩⟩, hl, hm, fun h => by cases h⟩
    · have := (hi 0 (by omega)).1
      exact World.block_lt_of_cell? _ _ this
    · have hkn : k < len := by
        have := (List.getElem?_eq_some_iff.1 hk).1
        simpa using this
      rw [List.getElem?_map, List.getElem?_range hkn] at hk
      simp at hk
      subst hk
      rw [(hi k (by omega)).1, hf k hkn]
set_option maxRecDepth 100000 in
theorem open_I {r : Reach} {b0 : Nat} {v : Value} {d : DataW H} {p : List MemPlace} (hv : Value.okWide Try.prog w r b0 23 v) (h : DataW.Trod enc Try.prog w base spare held 23 v d p) :
    ∃ (A : Option Addr) (n cap : Nat) (l : List Int), v = .slice A n cap ∧ RowI w A n l ∧ n ≤ cap ∧ cap ≤ maxLen ∧ (A = none → cap = 0) := by
  obtain ⟨A, n, cap, rfl⟩ := okWide_slice Try.underlying23 hv
  obtain ⟨fuel, hf⟩ := h
  obtain ⟨A', n', cap', l, hcs, h1, h2, h3, h4⟩ := open_Ic hf
  simp [Value.cells] at hcs
  obtain ⟨rfl, rfl, rfl⟩ := hcs
  exact ⟨_, _, _, l, rfl, h1, h2, h3, h4⟩
end
end Go.Proofs.Ytnfcigbiebbjdaa
