/-
  Rows of Booleans; new rows of numbers made of a law.
  No conditions.
-/
import Derived.Test.YtnfcigbiebbjdaaLate
import Derived.Test.YtnfcigbiebbjdaaLawl2
namespace Go.Proofs.Ytnfcigbiebbjdaa
open Go.RowKit

def boolc (n : Nat) (f : Int → Bool) : Array Value := ((nums n).map fun z => Value.bool (f z)).toArray
theorem boolc_at {n : Nat} {f : Int → Bool} {i : Nat} (h : i < n) : (boolc n f)[i]? = some (.bool (f i)) := by
  unfold boolc
  rw [List.getElem?_toArray, List.getElem?_map]
  simp [nums, h]
theorem boolc_size (n : Nat) (f : Int → Bool) : (boolc n f).size = n := by simp [boolc, nums_length]
theorem boolc_set {n : Nat} {f : Int → Bool} {i : Nat} {x : Bool} : (boolc n f).setIfInBounds i (.bool x) = boolc n fun z => if z = (i : Int) then x else f z := by
  refine Array.ext_getElem? fun k => ?_
  by_cases hk : k < n
  · rw [boolc_at hk]
    by_cases e : i = k
    · subst e
      rw [Array.getElem?_setIfInBounds_self_of_lt (by rw [boolc_size]; exact hk), if_pos rfl]
    · rw [Array.getElem?_setIfInBounds_ne e, boolc_at hk, if_neg (by omega)]
  · rw [Array.getElem?_eq_none (by rw [Array.size_setIfInBounds, boolc_size]; omega), Array.getElem?_eq_none (by rw [boolc_size]; omega)]
theorem boolc_congr {n : Nat} {f g : Int → Bool} (h : ∀ z : Int, 0 ≤ z → z < n → f z = g z) : boolc n f = boolc n g := by
  unfold boolc
  congr 1
  refine List.map_congr_left fun z hz => ?_
  have := mem_nums.1 hz
  rw [h z this.1 this.2]
/-- Block P is a row of Booleans. -/
def RowBo (w : World) (P n : Nat) (f : Int → Bool) : Prop := Blk w P 4 (boolc n f)
theorem RowBo.at_ {w : World} {P n i : Nat} {f : Int → Bool} (h : RowBo w P n f) (hi : i < n) : w.cell? ⟨P, i, none⟩ = some (.bool (f i)) := (Blk.cell h i).trans (boolc_at hi)
theorem RowBo.set_ {w : World} {P n : Nat} {f : Int → Bool} (h : RowBo w P n f) (i : Nat) (x : Bool) : RowBo (w.setCell ⟨P, i, none⟩ (.bool x)) P n fun z => if z = (i : Int) then x else f z := by
  have := Blk.set_ h i (.bool x)
  rwa [boolc_set] at this
theorem RowBo.later {w w' : World} {P n : Nat} {f : Int → Bool} (h : RowBo w P n f) (hb : Below w.heap.size w w') : RowBo w' P n f := Blk.later h hb
theorem RowBo.frozen {w : World} {P n : Nat} {f : Int → Bool} (h : RowBo w P n f) (i : Nat) : w.frozen? ⟨P, i, none⟩ = false := Blk.frozen h i
theorem RowBo.lt {w : World} {P n : Nat} {f : Int → Bool} (h : RowBo w P n f) : P < w.heap.size := Blk.lt h
theorem RowBo.congr {w : World} {P n : Nat} {f g : Int → Bool} (h : RowBo w P n f) (e : ∀ z : Int, 0 ≤ z → z < n → f z = g z) : RowBo w P n g := by
  unfold RowBo
  rw [← boolc_congr e]
  exact h
/-- Block R is a row of numbers made of a law. -/
def RowT (w : World) (R n : Nat) (f : Int → Int) : Prop := RowB w R (tab n f)
theorem RowT.at_ {w : World} {R n i : Nat} {f : Int → Int} (h : RowT w R n f) (hi : i < n) : w.cell? ⟨R, i, none⟩ = some (.int .i64 (f i)) := RowB.at_ h (tab_get hi)
theorem RowT.set_ {w : World} {R n : Nat} {f : Int → Int} (h : RowT w R n f) (i : Nat) (x : Int) : RowT (w.setCell ⟨R, i, none⟩ (.int .i64 x)) R n fun z => if z = (i : Int) then x else f z := by
  have := RowB.set_ h i x
  rwa [tab_set] at this
theorem RowT.later {w w' : World} {R n : Nat} {f : Int → Int} (h : RowT w R n f) (hb : Below w.heap.size w w') : RowT w' R n f := RowB.later h hb
theorem RowT.frozen {w : World} {R n : Nat} {f : Int → Int} (h : RowT w R n f) (i : Nat) : w.frozen? ⟨R, i, none⟩ = false := RowB.frozen h i
theorem RowT.lt {w : World} {R n : Nat} {f : Int → Int} (h : RowT w R n f) : R < w.heap.size := RowB.lt h
theorem RowT.congr {w : World} {R n : Nat} {f g : Int → Int} (h : RowT w R n f) (e : ∀ z : Int, 0 ≤ z → z < n → f z = g z) : RowT w R n g := by
  unfold RowT
  rw [← tab_congr e]
  exact h
theorem RowT.new (w : World) (n : Nat) : RowT (w.alloc (.cells (rowc (List.replicate n 0)) 3)) w.heap.size n fun _ => 0 := by
  unfold RowT
  rw [← tab_zero]
  exact Blk.new w 3 _
theorem info4 : (Try.prog.info? 4).map (fun i => (i.zero, i.size, i.bytes)) = some (some (.bool false), 1, 1) := by kernel_rfl
def boolz (n : Nat) : Array Value := boolc n fun _ => false
theorem boolz_eq (n : Nat) : boolz n = (List.replicate n (Value.bool false)).toArray := by
  unfold boolz boolc
  congr 1
  refine List.ext_getElem? fun k => ?_
  by_cases hk : k < n
  · simp [nums, hk]
  · rw [List.getElem?_eq_none (by simp [nums_length]; omega), List.getElem?_eq_none (by simp; omega)]
/-- A new row of Booleans. -/
theorem make_bools (n : Nat) (hn : n ≤ 100000) (w : World) : (Instr.makeSlice 73 (.int .i64 (n : Int)) (.int .i64 (n : Int))).run Try.prog w = .ok (.slice (some ⟨w.heap.size, 0, none⟩) n n) (w.alloc (.cells (boolz n) 4)) := by
  obtain ⟨i0, hi, hz0, hz1, hz2⟩ := info_parts info4
  have hr := run_make (P := Try.prog) w 73 4 i0 (.bool false) Try.underlying73 hi hz0 .i64 .i64 n n (by omega) (Int.le_refl _) (by rw [hz2]; omega) (by omega)
  simp only [Int.toNat_natCast] at hr
  rw [hr, hz1, Nat.mul_one]
  have e : madeCells (Value.bool false).cells n = boolz n := by
    rw [boolz_eq]
    apply Array.toList_inj.1
    have := toList_madeCells_one (.bool false) n
    show (madeCells #[.bool false] n).toList = _
    rw [this]
  rw [e]
theorem RowBo.new (w : World) (n : Nat) : RowBo (w.alloc (.cells (boolz n) 4)) w.heap.size n fun _ => false := Blk.new w 4 _
end Go.Proofs.Ytnfcigbiebbjdaa
