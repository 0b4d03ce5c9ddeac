/-
  The sort as a program calls it; the comparison of two integers; the numbers below a limit.
  Conditions: as for the sort.
-/
import Derived.Test.YtnfcigbiebbjdaaSort7
import Derived.Test.YtnfcigbiebbjdaaSwo
namespace Go.Proofs.Ytnfcigbiebbjdaa
open Go.RowKit

set_option maxHeartbeats 1000000 in
theorem sort_any {g : Nat} {cb : Array Value} {cf : Int → Int → Int} {w0 : World} {R : Nat} {D : Int → Prop} (C : Cmp g cb cf w0 R D) {le : Int → Int → Prop} (T : TotLe le)
    (d : List Int) (cap : Nat) (w : World) (hD : ∀ x ∈ d, D x) (hA : d.Pairwise (Agrees cf le)) (hB : RowB w R d) (hw : w0.grownBy w (some R)) (n : Nat) (hn : n = d.length) (hl : n ≤ 1000) :
    Calls Try.prog 54 #[.slice (some ⟨R, 0, none⟩) n cap, .func (.func g) #[] cb] w fun e w' =>
      e = .returned (.tuple #[]) ∧ ∃ L, L.Perm d ∧ L.Pairwise le ∧ RowB w' R L ∧ w0.grownBy w' (some R) := by
  have M := Lib.hid (stable_any C T d cap w hD hA hB hw n hn hl)
  clear C T hD hA hB hw hn
  go_enter Try.func54, Try.ntmps54
  go_wp2_with fail
  refine M.out.mono ?_
  rintro e w2 ⟨rfl, L, h1, h2, h3, h4⟩
  have H1 := Lib.hid h1
  have H2 := Lib.hid h2
  clear h1 h2
  go_wp2_with fail
  go_end0
  exact ⟨rfl, L, H1.out, H2.out, h3, h4⟩

theorem isNaN_any (x : Int) (w : World) : Calls Try.prog 80 #[.int .i64 x] w fun e w' => e = .returned (.bool false) ∧ w = w' := by
  go_enter Try.func80, Try.ntmps80
  go_wp2
  go_ret
  exact ⟨rfl, rfl⟩
theorem compare_any (x y : Int) (w : World) : Calls Try.prog 56 #[.int .i64 x, .int .i64 y] w fun e w' => e = .returned (.int .i64 (cmpI x y)) ∧ w = w' := by
  go_enter Try.func56, Try.ntmps56
  by_cases h1 : x < y
  · have e1 : cmpI x y = -1 := by unfold cmpI; rw [if_pos h1]
    rw [e1]
    have hb1 : decide (x < y) = true := by simpa using h1
    clear e1
    go_wp2_with (go_at_call 80; refine (isNaN_any _ _).mono ?_; rintro e w' ⟨rfl, rfl⟩)
    go_ret
    exact ⟨rfl, rfl⟩
  · have hb1 : decide (x < y) = false := by simpa using h1
    by_cases h2 : y < x
    · have e1 : cmpI x y = 1 := by unfold cmpI; rw [if_neg h1, if_pos h2]
      rw [e1]
      have hb2 : decide (y < x) = true := by simpa using h2
      clear e1
      go_wp2_with (go_at_call 80; refine (isNaN_any _ _).mono ?_; rintro e w' ⟨rfl, rfl⟩)
      go_ret
      exact ⟨rfl, rfl⟩
    · have e1 : cmpI x y = 0 := by unfold cmpI; rw [if_neg h1, if_neg h2]
      rw [e1]
      have hb2 : decide (y < x) = false := by simpa using h2
      clear e1
      go_wp2_with (go_at_call 80; refine (isNaN_any _ _).mono ?_; rintro e w' ⟨rfl, rfl⟩)
      go_ret
      exact ⟨rfl, rfl⟩

theorem info3 : (Try.prog.info? 3).map (fun i => (i.zero, i.size, i.bytes)) = some (some (.int .i64 0), 1, 8) := by kernel_rfl
/-- A new row of zeros. -/
theorem make_ints (n : Nat) (hn : n ≤ 100000) (w : World) : (Instr.makeSlice 23 (.int .i64 (n : Int)) (.int .i64 (n : Int))).run Try.prog w = .ok (.slice (some ⟨w.heap.size, 0, none⟩) n n) (w.alloc (.cells (rowc (List.replicate n 0)) 3)) := by
  obtain ⟨i0, hi, hz0, hz1, hz2⟩ := info_parts info3
  have hr := run_make (P := Try.prog) w 23 3 i0 (.int .i64 0) Try.underlying23 hi hz0 .i64 .i64 n n (by omega) (Int.le_refl _) (by rw [hz2]; omega) (by omega)
  simp only [Int.toNat_natCast] at hr
  rw [hr, hz1, Nat.mul_one]
  have e : madeCells (Value.int .i64 0).cells n = rowc (List.replicate n 0) := by
    apply Array.toList_inj.1
    have := toList_madeCells_one (.int .i64 0) n
    show (madeCells #[.int .i64 0] n).toList = _
    rw [this]
    simp [rowc]
  rw [e]
theorem nums_get {n i : Nat} (h : i < n) : (nums n)[i]? = some (i : Int) := by simp [nums, h]

set_option maxHeartbeats 1000000 in
theorem numbers_any (n : Nat) (w : World) (hl : n ≤ 1000) : Calls Try.prog 53 #[.int .i64 n] w fun e w' => e = .returned (.slice (some ⟨w.heap.size, 0, none⟩) n n) ∧ RowB w' w.heap.size (nums n) ∧ Below w.heap.size w w' := by
  have hmk := make_ints n (by omega)
  go_enter Try.func53, Try.ntmps53
  go_wp2_with fail
  go_loopw [9] (fun u wr => ∃ k : Nat, k ≤ n ∧ u = .int .i64 k ∧ RowB wr w.heap.size (nums k ++ List.replicate (n - k) 0) ∧ Below w.heap.size w wr) (fun u _ => n - (intOf u).toNat)
  case atStart => exact ⟨0, Nat.zero_le _, rfl, by have h : RowB (w.alloc (.cells (rowc (List.replicate n 0)) 3)) w.heap.size (List.replicate n 0) := Blk.new w 3 _; simpa [nums] using h, (Below.refl _ _).alloc (Nat.le_refl _) _⟩
  case round =>
    clear hmk
    obtain ⟨k, hk, rfl, hB, hw⟩ := hrel
    by_cases hlt : k < n
    · have hbt : decide ((k : Int) < (n : Int)) = true := by simp; omega
      have hbt2 : (k : Int) < (n : Int) := by omega
      have f := hB.frozen
      have lR := hB.lt
      obtain ⟨x, hx⟩ : ∃ x, (nums k ++ List.replicate (n - k) (0 : Int))[k]? = some x := ⟨_, List.getElem?_eq_getElem (by rw [List.length_append, nums_length, List.length_replicate]; omega)⟩
      have c := hB.at_ hx
      have h1 := hB.set_ k (k : Int)
      have e : (nums k ++ List.replicate (n - k) 0).set k (k : Int) = nums (k + 1) ++ List.replicate (n - (k + 1)) 0 := by
        rw [List.set_append_right _ _ (by rw [nums_length]; omega), nums_length, Nat.sub_self, show n - k = (n - (k + 1)) + 1 by omega, List.replicate_succ, List.set_cons_zero, nums_succ]
        simp
      rw [e] at h1
      have H1 := Lib.hid h1
      clear h1 e hx
      go_wp2_with fail
      go_roundw
      case rel => exact ⟨k + 1, by omega, by go_num, H1.out, hw.setCell (Nat.le_refl _) _⟩
      case measure => simp [intOf]; omega
    · obtain rfl : k = n := by omega
      have hbt : decide ((k : Int) < (k : Int)) = false := by simp
      rw [Nat.sub_self, List.replicate_zero, List.append_nil] at hB
      go_wp2_with fail
      go_ret
      exact ⟨rfl, hB, hw⟩
end Go.Proofs.Ytnfcigbiebbjdaa
