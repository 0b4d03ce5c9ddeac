/-
  Contracts of the functions on dates: Number, Weekday of the reference; Number, Weekday of package dial.
  Conditions: the dates that the reference's functions are asked of are valid.
-/
import Derived.Test.YtjlnkghjiaglmaaDates
namespace Go.Proofs.Ytjlnkghjiaglmaa
open Go.RowKit

set_option maxHeartbeats 1000000 in
theorem rNumber_any (y m d : Int) (w : World) (h : Cal.ok y m d) :
    Calls Try.prog 44 #[D3 y m d] w fun e w' => e = .returned (.int .i64 (Cal.num y m d)) ∧ Below w.heap.size w w' := by
  obtain ⟨h1, h2, h3, h4, h5, h6⟩ := h
  have h7 := (Cal.dl_bd m (Cal.lp y)).2
  go_enter Try.func44, Try.ntmps44
  go_wp2_with fail
  go_loop [3, 4] (fun n i => ∃ q : Int, 1 ≤ q ∧ q ≤ y ∧ i = .int .i64 q ∧ n = .int .i64 (Cal.yb q + (d - 1))) (fun _ i => (y - intOf i).toNat)
  case atStart => exact ⟨1, by omega, by omega, rfl, by simp [Cal.yb_one]⟩
  case round =>
    obtain ⟨q, hq1, hq2, rfl, rfl⟩ := hrel
    have hyb := Cal.yb_bd q hq1 (by omega)
    have hys := Lib.hid (Cal.yb_succ q)
    have hyl := Lib.hid (show Cal.yl q = if Cal.lp q = true then 366 else 365 from rfl)
    by_cases hlt : q < y
    · by_cases hl : Cal.lp q = true
      · have hyl' := Lib.hid (show Cal.yl q = 366 by rw [hyl.out, if_pos hl])
        go_wp2_with (go_at_call 25; refine (Leap_any _ _ (by omega)).mono ?_; rintro e w' ⟨rfl, rfl⟩)
        go_round
        case rel => exact ⟨q + 1, by omega, by omega, rfl, by rw [hys.out, hyl'.out]; congr 1; omega⟩
        case measure => simp [intOf]; omega
      · have hl' : Cal.lp q = false := by simpa using hl
        clear hl
        have hyl' := Lib.hid (show Cal.yl q = 365 by rw [hyl.out, hl']; rfl)
        go_wp2_with (go_at_call 25; refine (Leap_any _ _ (by omega)).mono ?_; rintro e w' ⟨rfl, rfl⟩)
        go_round
        case rel => exact ⟨q + 1, by omega, by omega, rfl, by rw [hys.out, hyl'.out]; congr 1; omega⟩
        case measure => simp [intOf]; omega
    · have hqy : q = y := by omega
      subst hqy
      clear hys hyl hlt hq1 hq2
      go_wp2
      go_loopw [3, 5] (fun n i wr => ∃ k : Nat, (k : Int) + 1 ≤ m ∧ i = .int .i64 ((k : Int) + 1) ∧ n = .int .i64 (Cal.yb q + Cal.cum k (Cal.lp q) + (d - 1)) ∧
          Below (w.alloc (.cells #[.int .i64 q, .int .i64 m, .int .i64 d] 30)).heap.size (w.alloc (.cells #[.int .i64 q, .int .i64 m, .int .i64 d] 30)) wr) (fun _ i _ => (m - intOf i).toNat)
      case atStart => exact ⟨0, by omega, by simp, by simp [Cal.cum], Below.refl _ _⟩
      case round =>
        obtain ⟨k, hk, rfl, rfl, hb0⟩ := hrel
        obtain ⟨hc, hf⟩ := bcell hb0
        have hz := hb0.size
        simp at hz
        have hb := Cal.cum_bd k (Cal.lp q)
        have hd := Cal.dl_bd ((k : Int) + 1) (Cal.lp q)
        by_cases hlt : (k : Int) + 1 < m
        · go_wp2_with (first
            | (go_at_call 25; refine (Leap_any _ _ (by omega)).mono ?_; rintro e w' ⟨rfl, rfl⟩)
            | (go_at_call 24; refine (rLength_any _ _ _ (by omega) (by omega)).mono ?_; rintro e w1 ⟨rfl, hb1⟩))
          go_roundw
          case rel => exact ⟨k + 1, by omega, by go_num, by rw [Cal.cum_succ]; congr 1; omega, hb0.trans (hb1.mono (by simp; omega))⟩
          case measure => simp [intOf]; omega
        · go_wp2
          go_ret
          have hm : m = (k : Int) + 1 := by omega
          exact ⟨ret_int (by rw [hm]; unfold Cal.num; rw [Cal.cm_nat]; omega), ((Below.refl _ _).alloc (Nat.le_refl _) _).trans (hb0.mono (by simp))⟩

set_option maxHeartbeats 400000 in
theorem rWeekday_any (y m d : Int) (w : World) (h : Cal.ok y m d) :
    Calls Try.prog 45 #[D3 y m d] w fun e w' => e = .returned (.int .i64 ((Cal.num y m d + 1) % 7)) ∧ Below w.heap.size w w' := by
  have hn := Cal.num_bd h
  have H := Lib.hid h
  clear h
  go_enter Try.func45, Try.ntmps45
  go_wp2_with (go_at_call 44; refine (rNumber_any _ _ _ _ H.out).mono ?_; rintro e w1 ⟨rfl, hb1⟩)
  go_ret
  exact ⟨rfl, ((Below.refl _ _).alloc (Nat.le_refl _) _).trans (hb1.mono (by simp))⟩

set_option maxHeartbeats 400000 in
theorem Number_yes (y m d : Int) (w : World) (h : Cal.ok y m d) :
    Calls Try.prog 27 #[D3 y m d] w fun e w' => e = .returned (.tuple #[.int .i64 (Cal.num y m d), .int .i64 0]) ∧ Below w.heap.size w w' := by
  have H := Lib.hid h
  clear h
  go_enter Try.func27, Try.ntmps27
  go_wp2_with (first
    | (go_at_call 62; refine (valid_yes _ _ _ _ H.out).mono ?_; rintro e w1 ⟨rfl, hb1⟩; obtain ⟨hc1, hf1⟩ := bcell hb1; have hz := hb1.size; simp at hz)
    | (go_at_call 63; refine (number_any _ _ _ _ H.out).mono ?_; rintro e w2 ⟨rfl, hb2⟩))
  go_ret2
  exact ⟨rfl, (((Below.refl _ _).alloc (Nat.le_refl _) _).trans (hb1.mono (by simp))).trans (hb2.mono (by omega))⟩
set_option maxHeartbeats 400000 in
theorem Number_no (y m d : Int) (w : World) (h : ¬ Cal.ok y m d) :
    Calls Try.prog 27 #[D3 y m d] w fun e w' => e = .returned (.tuple #[.int .i64 0, .int .i64 1]) ∧ Below w.heap.size w w' := by
  have H := Lib.hid h
  clear h
  go_enter Try.func27, Try.ntmps27
  go_wp2_with (go_at_call 62; refine (valid_no _ _ _ _ H.out).mono ?_; rintro e w1 ⟨rfl, hb1⟩)
  go_ret2
  exact ⟨rfl, ((Below.refl _ _).alloc (Nat.le_refl _) _).trans (hb1.mono (by simp))⟩
set_option maxHeartbeats 400000 in
theorem Weekday_yes (y m d : Int) (w : World) (h : Cal.ok y m d) :
    Calls Try.prog 28 #[D3 y m d] w fun e w' => e = .returned (.tuple #[.int .i64 ((Cal.num y m d + 1) % 7), .int .i64 0]) ∧ Below w.heap.size w w' := by
  have hn := Cal.num_bd h
  have H := Lib.hid h
  clear h
  go_enter Try.func28, Try.ntmps28
  go_wp2_with (first
    | (go_at_call 62; refine (valid_yes _ _ _ _ H.out).mono ?_; rintro e w1 ⟨rfl, hb1⟩; obtain ⟨hc1, hf1⟩ := bcell hb1; have hz := hb1.size; simp at hz)
    | (go_at_call 63; refine (number_any _ _ _ _ H.out).mono ?_; rintro e w2 ⟨rfl, hb2⟩)
    | (go_at_call 64; refine (weekday_any _ _ (by omega) (by omega)).mono ?_; rintro e w3 ⟨rfl, rfl⟩))
  go_ret2
  exact ⟨rfl, (((Below.refl _ _).alloc (Nat.le_refl _) _).trans (hb1.mono (by simp))).trans (hb2.mono (by omega))⟩
set_option maxHeartbeats 400000 in
theorem Weekday_no (y m d : Int) (w : World) (h : ¬ Cal.ok y m d) :
    Calls Try.prog 28 #[D3 y m d] w fun e w' => e = .returned (.tuple #[.int .i64 0, .int .i64 1]) ∧ Below w.heap.size w w' := by
  have H := Lib.hid h
  clear h
  go_enter Try.func28, Try.ntmps28
  go_wp2_with (go_at_call 62; refine (valid_no _ _ _ _ H.out).mono ?_; rintro e w1 ⟨rfl, hb1⟩)
  go_ret2
  exact ⟨rfl, ((Below.refl _ _).alloc (Nat.le_refl _) _).trans (hb1.mono (by simp))⟩
end Go.Proofs.Ytjlnkghjiaglmaa
