/-
  Rows of integers: a block that is just a row; slices that read as a list; what an owned slice of integers reads as.
  No conditions.
-/
import Derived.Test.YtnfcigbiebbjdaaKit2
import Derived.Laws.AppendOwn
namespace Go.Proofs.Ytnfcigbiebbjdaa
open Go.RowKit

def rowc (l : List Int) : Array Value := (l.map (Value.int .i64)).toArray
theorem rowc_at {l : List Int} {i : Nat} {x : Int} (h : l[i]? = some x) : (rowc l)[i]? = some (.int .i64 x) := by
  unfold rowc
  rw [List.getElem?_toArray, List.getElem?_map, h]
  rfl
theorem rowc_size (l : List Int) : (rowc l).size = l.length := by simp [rowc]
theorem rowc_set (l : List Int) (i : Nat) (x : Int) : (rowc l).setIfInBounds i (.int .i64 x) = rowc (l.set i x) := by
  unfold rowc
  rw [List.setIfInBounds_toArray, List.map_set]
/-- Block R is a row. -/
def RowB (w : World) (R : Nat) (l : List Int) : Prop := Blk w R 3 (rowc l)
theorem RowB.at_ {w : World} {R i : Nat} {l : List Int} {x : Int} (h : RowB w R l) (hx : l[i]? = some x) : w.cell? ⟨R, i, none⟩ = some (.int .i64 x) := (Blk.cell h i).trans (rowc_at hx)
theorem RowB.set_ {w : World} {R : Nat} {l : List Int} (h : RowB w R l) (i : Nat) (x : Int) : RowB (w.setCell ⟨R, i, none⟩ (.int .i64 x)) R (l.set i x) := by
  have := Blk.set_ h i (.int .i64 x)
  rwa [rowc_set] at this
theorem RowB.later {w w' : World} {R : Nat} {l : List Int} (h : RowB w R l) (hb : Below w.heap.size w w') : RowB w' R l := Blk.later h hb
theorem RowB.frozen {w : World} {R : Nat} {l : List Int} (h : RowB w R l) (i : Nat) : w.frozen? ⟨R, i, none⟩ = false := Blk.frozen h i
theorem RowB.lt {w : World} {R : Nat} {l : List Int} (h : RowB w R l) : R < w.heap.size := Blk.lt h

/-- A slice that reads as a list of integers, wherever it starts. -/
def RowI (w : World) (A : Option Addr) (n : Nat) (l : List Int) : Prop :=
  l.length = n ∧ (0 < n → ∃ a : Addr, A = some a ∧ a.block < w.heap.size ∧ ∀ (k : Nat) (v : Int), l[k]? = some v → w.cell? (a.add k) = some (.int .i64 v))
theorem add_block (a : Addr) (k : Nat) : (a.add k).block = a.block := by unfold Addr.add; split <;> rfl
theorem RowI.later {w w' : World} {A : Option Addr} {n : Nat} {l : List Int} (h : RowI w A n l) (hb : Below w.heap.size w w') : RowI w' A n l :=
  ⟨h.1, fun hn => by
    obtain ⟨a, e, hg, hc⟩ := h.2 hn
    exact ⟨a, e, Nat.lt_of_lt_of_le hg hb.size, fun k v hk => (hb.cell (p := a.add k) (by rw [add_block]; exact hg)).trans (hc k v hk)⟩⟩
theorem RowI.at_ {w : World} {A : Option Addr} {n k : Nat} {l : List Int} (h : RowI w A n l) (hk : k < n) : ∃ a : Addr, A = some a ∧ a.block < w.heap.size ∧ w.cell? (a.add k) = some (.int .i64 (l.getD k 0)) := by
  obtain ⟨g, e, hg, hc⟩ := h.2 (by omega)
  have hl : k < l.length := by have := h.1; omega
  refine ⟨g, e, hg, hc k _ ?_⟩
  rw [List.getD_eq_getElem?_getD, List.getElem?_eq_getElem hl]
  rfl
theorem RowI.nil (w : World) (A : Option Addr) : RowI w A 0 [] := ⟨rfl, fun h => absurd h (by omega)⟩
theorem RowI.of_row {w : World} {R : Nat} {l : List Int} (h : RowB w R l) {n : Nat} (hn : l.length = n) : RowI w (some ⟨R, 0, none⟩) n l :=
  ⟨hn, fun _ => ⟨_, rfl, h.lt, fun k v hk => by
    have := h.at_ hk
    rw [Addr.add_lit, Nat.zero_add]
    exact this⟩⟩
/-- The first ones of a row are a row. -/
theorem RowI.take {w : World} {A : Option Addr} {n m : Nat} {l : List Int} (h : RowI w A n l) (hm : m ≤ n) : RowI w A m (l.take m) :=
  ⟨by rw [List.length_take, h.1]; omega, fun h0 => by
    obtain ⟨a, e, hg, hc⟩ := h.2 (by omega)
    refine ⟨a, e, hg, fun k v hk => hc k v ?_⟩
    rw [List.getElem?_take] at hk
    split at hk
    · exact hk
    · simp at hk⟩
theorem own_rowI {w : World} {base : Nat} {A : Option Addr} {n m c : Nat} {l : List Int} (h : w.ownsRow base 3 1 (.slice A m c) n (l.map (Value.int .i64))) : RowI w A m l := by
  obtain ⟨hl, h⟩ := h
  simp only [List.length_map, Nat.mul_one] at hl
  rcases h with ⟨h1, h2⟩ | ⟨g, cap, cur, h1, h2, h3, h4, h5, h6, h7⟩
  · injection h1 with e1 e2 e3
    subst e1 e2
    exact ⟨by omega, fun h => absurd h (by omega)⟩
  · injection h1 with e1 e2 e3
    subst e1 e2
    refine ⟨hl, fun _ => ⟨⟨g, 0, none⟩, rfl, (Array.getElem?_eq_some_iff.1 h3).1, fun k v hk => ?_⟩⟩
    have hkl : k < l.length := (List.getElem?_eq_some_iff.1 hk).1
    rw [Addr.add_lit, Nat.zero_add, cell_of_row w g k cur 3 (0, 0) h3]
    have := congrArg (fun x => x[k]?) h7
    simp only [List.getElem?_map, hk, Option.map_some, List.getElem?_take] at this
    rw [if_pos (by omega)] at this
    rw [← Array.getElem?_toList]
    exact this
end Go.Proofs.Ytnfcigbiebbjdaa
