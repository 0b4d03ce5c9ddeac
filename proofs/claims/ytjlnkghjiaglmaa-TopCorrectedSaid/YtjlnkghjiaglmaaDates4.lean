/-
  Contracts of Date of package dial and of the reference, where there is no such date; of some, Next.
  Conditions: none.
-/
import Derived.Test.YtjlnkghjiaglmaaDates3
namespace Go.Proofs.Ytjlnkghjiaglmaa
open Go.RowKit

set_option maxHeartbeats 400000 in
theorem rDate_no (n : Int) (w : World) (h : ¬ (0 ≤ n ∧ n ≤ 3652058)) :
    Calls Try.prog 46 #[.int .i64 n] w fun e w' => e = .returned (.tuple #[D3 0 0 0, .bool false]) ∧ Below w.heap.size w w' := by
  by_cases h1 : 0 ≤ n
  · have h2 : Cal.num 9999 12 31 < n := by rw [Cal.num_max]; omega
    clear h
    go_enter Try.func46, Try.ntmps46
    go_wp2_with (go_at_call 44; refine (rNumber_any _ _ _ _ ok_max).mono ?_; rintro e w1 ⟨rfl, hb1⟩; obtain ⟨hc1, hf1⟩ := bcell hb1; have hR := (Blk.new w 30 #[.int .i64 0, .int .i64 0, .int .i64 0]).later hb1)
    refine bodyPost_cell w.heap.size 30 #[.int .i64 0, .int .i64 0, .int .i64 0] (.tuple #[D3 0 0 0, .bool false]) ?_ ?_ ⟨rfl, ?_⟩
    · exact ((hR.set_ 0 _).set_ 1 _).set_ 2 _
    · intro W' hW'
      simp [results, Try.results46, go_sem, hW']
    · exact ((((((Below.refl _ _).alloc (Nat.le_refl _) _).trans (hb1.mono (by simp)))).setCell (by simp) _).setCell (by simp) _).setCell (by simp) _
  · clear h
    go_enter Try.func46, Try.ntmps46
    go_wp2_with fail
    refine bodyPost_cell w.heap.size 30 #[.int .i64 0, .int .i64 0, .int .i64 0] (.tuple #[D3 0 0 0, .bool false]) ?_ ?_ ⟨rfl, ?_⟩
    · exact Blk.new w 30 _
    · intro W' hW'
      simp [results, Try.results46, go_sem, hW']
    · exact (Below.refl _ _).alloc (Nat.le_refl _) _

set_option maxHeartbeats 1000000 in
theorem Date_yes (y m d : Int) (w : World) (h : Cal.ok y m d) :
    Calls Try.prog 43 #[.int .i64 (Cal.num y m d)] w fun e w' => e = .returned (.tuple #[D3 y m d, .int .i64 0]) ∧ Below w.heap.size w w' := by
  have hn := Cal.num_bd h
  have hi := Lib.hid (Cal.num_in h)
  have hmax : Cal.num y m d ≤ Cal.num 9999 12 31 := by rw [Cal.num_max]; exact hn.2
  obtain ⟨h1, h2, h3, h4, h5, h6⟩ := h
  have h7 := (Cal.dl_bd m (Cal.lp y)).2
  have heq := Lib.hid (show Cal.num y m d = Cal.yb y + Cal.cm m (Cal.lp y) + d - 1 from rfl)
  generalize Cal.num y m d = n at *
  have key : ∀ Y : Int, (∀ h o : Int, h = min (n % 146097 / 36524) 3 → o = min ((n % 146097 - h * 36524 - (n % 146097 - h * 36524) / 1461 * 1461) / 365) 3 →
      Y = 1 + n / 146097 * 400 + (100 * h + 4 * ((n % 146097 - h * 36524) / 1461) + o)) → Y = y := by
    intro Y hY
    have F := Cal.found_year n hn.1 hn.2 _ _ _ _ _ _ _ rfl rfl rfl rfl rfl rfl rfl
    have hi' := hi.out
    have h' := hY _ _ rfl rfl
    rw [h']
    exact Cal.year_of (n := n) (by omega) (by rw [Cal.yb_succ]; omega) hi'.1 hi'.2
  have Key := Lib.hid key
  clear key
  go_enter Try.func43, Try.ntmps43
  go_wp2_with (go_at_call 63; refine (number_any _ _ _ _ ok_max).mono ?_; rintro e w1 ⟨rfl, hb1⟩; have hR := (Blk.new w 30 #[.int .i64 0, .int .i64 0, .int .i64 0]).later hb1)
  case' inl.inl =>
    rw [show 1 + n / 146097 * 400 + (300 + 4 * ((n % 146097 - 109572) / 1461) + 3) = y from Key.out _ (by intro h o e1 e2; omega)]
  case' inr.inl =>
    rw [show 1 + n / 146097 * 400 + (100 * (n % 146097 / 36524) + 4 * ((n % 146097 - n % 146097 / 36524 * 36524) / 1461) + 3) = y from Key.out _ (by intro h o e1 e2; omega)]
  case' inr.inr =>
    rw [show 1 + n / 146097 * 400 + (100 * (n % 146097 / 36524) + 4 * ((n % 146097 - n % 146097 / 36524 * 36524) / 1461) + (n % 146097 - n % 146097 / 36524 * 36524 - (n % 146097 - n % 146097 / 36524 * 36524) / 1461 * 1461) / 365) = y from Key.out _ (by intro h o e1 e2; omega)]
  all_goals
    go_loop [0, 8] (fun r i => ∃ k : Nat, (k : Int) + 1 ≤ m ∧ r = .int .i64 (n - Cal.yb y - Cal.cum k (Cal.lp y)) ∧ i = .int .i64 ((k : Int) + 1)) (fun r _ => (intOf r).toNat)
    case atStart =>
      obtain ⟨r, er⟩ : ∃ r, r = n % 146097 := ⟨_, rfl⟩
      obtain ⟨h, eh⟩ : ∃ h, h = min (r / 36524) 3 := ⟨_, rfl⟩
      obtain ⟨s, es⟩ : ∃ s, s = r - h * 36524 := ⟨_, rfl⟩
      obtain ⟨f, ef⟩ : ∃ f, f = s / 1461 := ⟨_, rfl⟩
      obtain ⟨t, et⟩ : ∃ t, t = s - f * 1461 := ⟨_, rfl⟩
      obtain ⟨o, eo⟩ : ∃ o, o = min (t / 365) 3 := ⟨_, rfl⟩
      have F := Cal.found_year n hn.1 hn.2 _ r h s f t o rfl er eh es ef et eo
      have hi' := hi.out
      have Y : 1 + n / 146097 * 400 + (100 * h + 4 * f + o) = y := Cal.year_of (n := n) (by omega) (by have := Cal.yb_succ (1 + n / 146097 * 400 + (100 * h + 4 * f + o)); omega) hi'.1 hi'.2
      rw [Y] at F
      refine ⟨0, by omega, ?_, by simp⟩
      congr 1; simp only [Cal.cum]; omega
    case round =>
      obtain ⟨k, hk, rfl, rfl⟩ := hrel
      have hr := Lib.hid (show n - Cal.yb y = Cal.cm m (Cal.lp y) + d - 1 by have := heq.out; omega)
      have hcb := Cal.cum_bd k (Cal.lp y)
      have hdb := Cal.dl_bd ((k : Int) + 1) (Cal.lp y)
      have hyb := Cal.yb_bd y h1 (by omega)
      by_cases hge : Cal.dl ((k : Int) + 1) (Cal.lp y) ≤ n - Cal.yb y - Cal.cum k (Cal.lp y)
      · go_wp2_with (first
          | (go_at_call 61; refine (leaps_any _ _ (by omega)).mono ?_; rintro e w' ⟨rfl, rfl⟩)
          | (go_at_call 60; refine (length_any _ _ _).mono ?_; rintro e w' ⟨rfl, rfl⟩))
        go_round
        case rel =>
          have hk2 := Cal.month_lt (k := k) h3 h6 (by rw [Cal.cum_succ, ← hr.out]; omega)
          exact ⟨k + 1, by omega, by rw [Cal.cum_succ]; congr 1; omega, by go_num⟩
        case measure => simp [intOf]; omega
      · have hm : m = (k : Int) + 1 := Cal.month_eq h5 hk (by rw [Cal.cum_succ, ← hr.out]; omega)
        have hd : Hid (n - Cal.yb y - Cal.cum k (Cal.lp y) + 1 = d) := by
          have := hr.out
          rw [hm, Cal.cm_nat] at this
          show _ = _
          omega
        have hmh := Lib.hid hm
        clear hm
        have hc3 := hR.cell
        have hf3 := hR.frozen
        go_wp2_with (first
          | (go_at_call 61; refine (leaps_any _ _ (by omega)).mono ?_; rintro e w' ⟨rfl, rfl⟩)
          | (go_at_call 60; refine (length_any _ _ _).mono ?_; rintro e w' ⟨rfl, rfl⟩))
        refine bodyPost_cell w.heap.size 30 #[.int .i64 y, .int .i64 ((k : Int) + 1), .int .i64 (n - Cal.yb y - Cal.cum k (Cal.lp y) + 1)] (.tuple #[D3 y ((k : Int) + 1) (n - Cal.yb y - Cal.cum k (Cal.lp y) + 1), .int .i64 0]) ?_ ?_ ⟨?_, ?_⟩
        · exact ((hR.set_ 0 _).set_ 1 _).set_ 2 _
        · intro W' hW'
          simp [results, Try.results43, go_sem, hW']
        · rw [hd.out, hmh.out]
        · exact ((((((Below.refl _ _).alloc (Nat.le_refl _) _).trans (hb1.mono (by simp)))).setCell (by simp) _).setCell (by simp) _).setCell (by simp) _

set_option maxHeartbeats 400000 in
theorem Date_no (n : Int) (w : World) (h : ¬ (0 ≤ n ∧ n ≤ 3652058)) :
    Calls Try.prog 43 #[.int .i64 n] w fun e w' => e = .returned (.tuple #[D3 0 0 0, .int .i64 1]) ∧ Below w.heap.size w w' := by
  by_cases h1 : 0 ≤ n
  · have h2 : Cal.num 9999 12 31 < n := by rw [Cal.num_max]; omega
    clear h
    go_enter Try.func43, Try.ntmps43
    go_wp2_with (go_at_call 63; refine (number_any _ _ _ _ ok_max).mono ?_; rintro e w1 ⟨rfl, hb1⟩; obtain ⟨hc1, hf1⟩ := bcell hb1; have hR := (Blk.new w 30 #[.int .i64 0, .int .i64 0, .int .i64 0]).later hb1)
    refine bodyPost_cell w.heap.size 30 #[.int .i64 0, .int .i64 0, .int .i64 0] (.tuple #[D3 0 0 0, .int .i64 1]) ?_ ?_ ⟨rfl, ?_⟩
    · exact ((hR.set_ 0 _).set_ 1 _).set_ 2 _
    · intro W' hW'
      simp [results, Try.results43, go_sem, hW']
    · exact ((((((Below.refl _ _).alloc (Nat.le_refl _) _).trans (hb1.mono (by simp)))).setCell (by simp) _).setCell (by simp) _).setCell (by simp) _
  · clear h
    go_enter Try.func43, Try.ntmps43
    go_wp2_with fail
    refine bodyPost_cell w.heap.size 30 #[.int .i64 0, .int .i64 0, .int .i64 0] (.tuple #[D3 0 0 0, .int .i64 1]) ?_ ?_ ⟨rfl, ?_⟩
    · exact Blk.new w 30 _
    · intro W' hW'
      simp [results, Try.results43, go_sem, hW']
    · exact (Below.refl _ _).alloc (Nat.le_refl _) _
end Go.Proofs.Ytjlnkghjiaglmaa
