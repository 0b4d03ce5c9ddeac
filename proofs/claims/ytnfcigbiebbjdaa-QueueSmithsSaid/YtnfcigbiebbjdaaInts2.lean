/-
  Rows of integers that start at the heads of blocks.
  No conditions.
-/
import Derived.Test.YtnfcigbiebbjdaaInts
namespace Go.Proofs.Ytnfcigbiebbjdaa
open Go.RowKit

/-- A slice that reads as a list of integers and starts at the head of a block. -/
def RowH (w : World) (A : Option Addr) (n : Nat) (l : List Int) : Prop :=
  l.length = n ∧ (0 < n → ∃ g, A = some ⟨g, 0, none⟩ ∧ g < w.heap.size ∧ ∀ (k : Nat) (v : Int), l[k]? = some v → w.cell? ⟨g, k, none⟩ = some (.int .i64 v))
theorem RowH.later {w w' : World} {A : Option Addr} {n : Nat} {l : List Int} (h : RowH w A n l) (hb : Below w.heap.size w w') : RowH w' A n l :=
  ⟨h.1, fun hn => by
    obtain ⟨g, e, hg, hc⟩ := h.2 hn
    exact ⟨g, e, Nat.lt_of_lt_of_le hg hb.size, fun k v hk => (hb.cell (p := ⟨g, k, none⟩) hg).trans (hc k v hk)⟩⟩
theorem RowH.grown {w w' : World} {A : Option Addr} {n : Nat} {l : List Int} {r : Nat} (h : RowH w A n l) (hb : w.grownBy w' (some r)) (hr : ∀ g, A = some ⟨g, 0, none⟩ → g ≠ r) : RowH w' A n l :=
  ⟨h.1, fun hn => by
    obtain ⟨g, e, hg, hc⟩ := h.2 hn
    refine ⟨g, e, Nat.lt_of_lt_of_le hg hb.size, fun k v hk => ?_⟩
    have hbk := hb.block g hg (by have := hr g e; simp; exact this)
    have h0 := hc k v hk
    simp only [World.cell?] at h0 ⊢
    rw [hbk]
    exact h0⟩
theorem RowH.at_ {w : World} {A : Option Addr} {n k : Nat} {l : List Int} (h : RowH w A n l) (hk : k < n) : ∃ g, A = some ⟨g, 0, none⟩ ∧ g < w.heap.size ∧ w.cell? ⟨g, k, none⟩ = some (.int .i64 (l.getD k 0)) := by
  obtain ⟨g, e, hg, hc⟩ := h.2 (by omega)
  have hl : k < l.length := by have := h.1; omega
  refine ⟨g, e, hg, hc k _ ?_⟩
  rw [List.getD_eq_getElem?_getD, List.getElem?_eq_getElem hl]
  rfl
theorem RowH.nil (w : World) (A : Option Addr) : RowH w A 0 [] := ⟨rfl, fun h => absurd h (by omega)⟩
theorem RowH.of_row {w : World} {R : Nat} {l : List Int} (h : RowB w R l) {n : Nat} (hn : l.length = n) : RowH w (some ⟨R, 0, none⟩) n l :=
  ⟨hn, fun _ => ⟨_, rfl, h.lt, fun _ _ hk => h.at_ hk⟩⟩
theorem own_rowH {w : World} {base : Nat} {A : Option Addr} {n m c : Nat} {l : List Int} (h : w.ownsRow base 3 1 (.slice A m c) n (l.map (Value.int .i64))) : RowH w A m l := by
  obtain ⟨hl, h⟩ := h
  simp only [List.length_map, Nat.mul_one] at hl
  rcases h with ⟨h1, h2⟩ | ⟨g, cap, cur, h1, h2, h3, h4, h5, h6, h7⟩
  · injection h1 with e1 e2 e3
    subst e1 e2
    exact ⟨by omega, fun h => absurd h (by omega)⟩
  · injection h1 with e1 e2 e3
    subst e1 e2
    refine ⟨hl, fun _ => ⟨g, rfl, (Array.getElem?_eq_some_iff.1 h3).1, fun k v hk => ?_⟩⟩
    have hkl : k < l.length := (List.getElem?_eq_some_iff.1 hk).1
    rw [cell_of_row w g k cur 3 (0, 0) h3]
    have := congrArg (fun x => x[k]?) h7
    simp only [List.getElem?_map, hk, Option.map_some, List.getElem?_take] at this
    rw [if_pos (by omega)] at this
    rw [← Array.getElem?_toList]
    exact this
end Go.Proofs.Ytnfcigbiebbjdaa
