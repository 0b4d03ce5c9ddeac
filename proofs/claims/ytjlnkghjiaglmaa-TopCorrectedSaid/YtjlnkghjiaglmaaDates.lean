/-
  Contracts of the functions on dates: valid, number, Number, Weekday of package dial; Valid, Number, Weekday of the reference.
  Conditions: the dates that a number is asked of are valid.
-/
import Derived.Test.YtjlnkghjiaglmaaLeaf
namespace Go.Proofs.Ytjlnkghjiaglmaa
open Go.RowKit

/-- A date as the machine holds it. -/
abbrev D3 (y m d : Int) : Value := .agg #[.int .i64 y, .int .i64 m, .int .i64 d]

set_option maxHeartbeats 400000 in
theorem valid_yes (y m d : Int) (w : World) (h : Cal.ok y m d) :
    Calls Try.prog 62 #[D3 y m d] w fun e w' => e = .returned (.bool true) ∧ Below w.heap.size w w' := by
  obtain ⟨h1, h2, h3, h4, h5, h6⟩ := h
  go_enter Try.func62, Try.ntmps62
  go_wp2_with (go_at_call 22; refine (Length_yes _ _ _ (by omega) (by omega) (by omega) (by omega)).mono ?_; rintro e w' ⟨rfl, rfl⟩)
  go_ret
  exact ⟨rfl, (Below.refl _ _).alloc (Nat.le_refl _) _⟩

set_option maxHeartbeats 400000 in
theorem valid_no (y m d : Int) (w : World) (h : ¬ Cal.ok y m d) :
    Calls Try.prog 62 #[D3 y m d] w fun e w' => e = .returned (.bool false) ∧ Below w.heap.size w w' := by
  by_cases hy : 1 ≤ y ∧ y ≤ 9999 ∧ 1 ≤ m ∧ m ≤ 12
  · obtain ⟨h1, h2, h3, h4⟩ := hy
    by_cases h5 : 1 ≤ d
    · have h6 : Cal.dl m (Cal.lp y) < d := by unfold Cal.ok at h; omega
      clear h
      go_enter Try.func62, Try.ntmps62
      go_wp2_with (go_at_call 22; refine (Length_yes _ _ _ (by omega) (by omega) (by omega) (by omega)).mono ?_; rintro e w' ⟨rfl, rfl⟩)
      go_ret
      exact ⟨ret_bool (by simp; omega), (Below.refl _ _).alloc (Nat.le_refl _) _⟩
    · clear h
      go_enter Try.func62, Try.ntmps62
      go_wp2_with (go_at_call 22; refine (Length_yes _ _ _ (by omega) (by omega) (by omega) (by omega)).mono ?_; rintro e w' ⟨rfl, rfl⟩)
      go_ret
      exact ⟨rfl, (Below.refl _ _).alloc (Nat.le_refl _) _⟩
  · clear h
    go_enter Try.func62, Try.ntmps62
    go_wp2_with (go_at_call 22; refine (Length_no _ _ _ hy).mono ?_; rintro e w' ⟨rfl, rfl⟩)
    go_ret
    exact ⟨rfl, (Below.refl _ _).alloc (Nat.le_refl _) _⟩

set_option maxHeartbeats 400000 in
theorem rValid_yes (y m d : Int) (w : World) (h : Cal.ok y m d) :
    Calls Try.prog 39 #[D3 y m d] w fun e w' => e = .returned (.bool true) ∧ Below w.heap.size w w' := by
  obtain ⟨h1, h2, h3, h4, h5, h6⟩ := h
  go_enter Try.func39, Try.ntmps39
  go_wp2_with fail
  refine wp_region_later (by kernel_rfl) (by kernel_rfl) ?_
  have hx := later_cell (w := (w.alloc (.cells #[.int .i64 y, .int .i64 m, .int .i64 d] 30)))
  repeat (go_big_quiet_step (first
    | (go_at_call 68; exact later_same (in_yes _ _ _ _ (by omega) (by omega)))
    | (go_at_call 25; exact later_same (Leap_any _ _ (by omega)))
    | (go_at_call 24; exact later_call (rLength_any _ _ _ (by omega) (by omega)))))
  refine wpQuiet_nil ?_
  rintro _ ⟨⟨w1, hb1⟩, rfl⟩
  go_wp2
  go_ret
  exact ⟨rfl, ((Below.refl _ _).alloc (Nat.le_refl _) _).trans (hb1.mono (by simp))⟩

set_option maxHeartbeats 400000 in
theorem rValid_no (y m d : Int) (w : World) (h : ¬ Cal.ok y m d) :
    Calls Try.prog 39 #[D3 y m d] w fun e w' => e = .returned (.bool false) ∧ Below w.heap.size w w' := by
  have hx := later_cell (w := (w.alloc (.cells #[.int .i64 y, .int .i64 m, .int .i64 d] 30)))
  by_cases hy : 1 ≤ y ∧ y ≤ 9999
  · obtain ⟨h1, h2⟩ := hy
    by_cases hm : 1 ≤ m ∧ m ≤ 12
    · obtain ⟨h3, h4⟩ := hm
      have h6 : ¬ (1 ≤ d ∧ d ≤ Cal.dl m (Cal.lp y)) := by unfold Cal.ok at h; omega
      clear h
      have H6 := Lib.hid h6
      clear h6
      go_enter Try.func39, Try.ntmps39
      go_wp2_with fail
      refine wp_region_later (by kernel_rfl) (by kernel_rfl) ?_
      repeat (go_big_quiet_step (first
        | (go_at_call 68; exact later_same (in_yes _ _ _ _ (by omega) (by omega)))
        | (go_at_call 68; exact later_same (in_no _ _ _ _ H6.out))
        | (go_at_call 25; exact later_same (Leap_any _ _ (by omega)))
        | (go_at_call 24; exact later_call (rLength_any _ _ _ (by omega) (by omega)))))
      refine wpQuiet_nil ?_
      rintro _ ⟨⟨w1, hb1⟩, rfl⟩
      go_wp2
      go_ret
      exact ⟨rfl, ((Below.refl _ _).alloc (Nat.le_refl _) _).trans (hb1.mono (by simp))⟩
    · clear h
      have H6 := Lib.hid hm
      clear hm
      go_enter Try.func39, Try.ntmps39
      go_wp2_with fail
      refine wp_region_later (by kernel_rfl) (by kernel_rfl) ?_
      repeat (go_big_quiet_step (first
        | (go_at_call 68; exact later_same (in_yes _ _ _ _ (by omega) (by omega)))
        | (go_at_call 68; exact later_same (in_no _ _ _ _ H6.out))))
      refine wpQuiet_nil ?_
      rintro _ ⟨⟨w1, hb1⟩, rfl⟩
      go_wp2
      go_ret
      exact ⟨rfl, ((Below.refl _ _).alloc (Nat.le_refl _) _).trans (hb1.mono (by simp))⟩
  · clear h
    have H6 := Lib.hid hy
    clear hy
    go_enter Try.func39, Try.ntmps39
    go_wp2_with fail
    refine wp_region_later (by kernel_rfl) (by kernel_rfl) ?_
    repeat (go_big_quiet_step ((go_at_call 68; exact later_same (in_no _ _ _ _ H6.out))))
    refine wpQuiet_nil ?_
    rintro _ ⟨⟨w1, hb1⟩, rfl⟩
    go_wp2
    go_ret
    exact ⟨rfl, ((Below.refl _ _).alloc (Nat.le_refl _) _).trans (hb1.mono (by simp))⟩

set_option maxHeartbeats 1000000 in
theorem number_any (y m d : Int) (w : World) (h : Cal.ok y m d) :
    Calls Try.prog 63 #[D3 y m d] w fun e w' => e = .returned (.int .i64 (Cal.num y m d)) ∧ Below w.heap.size w w' := by
  obtain ⟨h1, h2, h3, h4, h5, h6⟩ := h
  have h7 := (Cal.dl_bd m (Cal.lp y)).2
  go_enter Try.func63, Try.ntmps63
  go_wp2_with fail
  go_loop [4, 5] (fun n i => ∃ k : Nat, (k : Int) + 1 ≤ m ∧ i = .int .i64 ((k : Int) + 1) ∧ n = .int .i64 (Cal.yb y + Cal.cum k (Cal.lp y) + d - 1)) (fun _ i => (m - intOf i).toNat)
  case atStart => exact ⟨0, by omega, by simp, by unfold Cal.yb; simp [Cal.cum]⟩
  case round =>
    obtain ⟨k, hk, rfl, rfl⟩ := hrel
    have hb := Cal.cum_bd k (Cal.lp y)
    have hd := Cal.dl_bd ((k : Int) + 1) (Cal.lp y)
    have hyb := Cal.yb_bd y h1 (by omega)
    by_cases hlt : (k : Int) + 1 < m
    · go_wp2_with (first
        | (go_at_call 61; refine (leaps_any _ _ (by omega)).mono ?_; rintro e w' ⟨rfl, rfl⟩)
        | (go_at_call 60; refine (length_any _ _ _).mono ?_; rintro e w' ⟨rfl, rfl⟩))
      go_round
      case rel => exact ⟨k + 1, by omega, by go_num, by rw [Cal.cum_succ]; congr 1; omega⟩
      case measure => simp [intOf]; omega
    · go_wp2
      go_ret
      have hm : m = (k : Int) + 1 := by omega
      exact ⟨ret_int (by rw [hm]; unfold Cal.num; rw [Cal.cm_nat]), (Below.refl _ _).alloc (Nat.le_refl _) _⟩
end Go.Proofs.Ytjlnkghjiaglmaa
