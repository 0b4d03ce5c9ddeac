/-
  Contracts of Date of the reference and of package dial.
  Conditions: none.
-/
import Derived.Test.YtjlnkghjiaglmaaDates2
import Derived.Test.YtjlnkghjiaglmaaKit2
namespace Go.Proofs.Ytjlnkghjiaglmaa
open Go.RowKit

theorem ok_max : Cal.ok 9999 12 31 := by decide

set_option maxHeartbeats 1000000 in
theorem rDate_yes (y m d : Int) (w : World) (h : Cal.ok y m d) :
    Calls Try.prog 46 #[.int .i64 (Cal.num y m d)] w fun e w' => e = .returned (.tuple #[D3 y m d, .bool true]) ∧ Below w.heap.size w w' := by
  have hn := Cal.num_bd h
  have hi := Lib.hid (Cal.num_in h)
  have hmax : Cal.num y m d ≤ Cal.num 9999 12 31 := by rw [Cal.num_max]; exact hn.2
  obtain ⟨h1, h2, h3, h4, h5, h6⟩ := h
  have h7 := (Cal.dl_bd m (Cal.lp y)).2
  have heq := Lib.hid (show Cal.num y m d = Cal.yb y + Cal.cm m (Cal.lp y) + d - 1 from rfl)
  generalize Cal.num y m d = n at *
  go_enter Try.func46, Try.ntmps46
  go_wp2_with (go_at_call 44; refine (rNumber_any _ _ _ _ ok_max).mono ?_; rintro e w1 ⟨rfl, hb1⟩; obtain ⟨hc1, hf1⟩ := bcell hb1; have hz1 := hb1.size; simp at hz1)
  have hR : Blk w1 w.heap.size 30 #[.int .i64 0, .int .i64 0, .int .i64 0] := (Blk.new w 30 _).later hb1
  have hB1 : Below w.heap.size w w1 := ((Below.refl _ _).alloc (Nat.le_refl _) _).trans (hb1.mono (by simp))
  go_loopw [5, 6] (fun t u wr => ∃ q : Int, 1 ≤ q ∧ q ≤ y ∧ t = .int .i64 (n - Cal.yb q) ∧ wr = w1.alloc (.cells #[.int .i64 q, .int .i64 1, .int .i64 1] 30)) (fun t _ _ => (intOf t).toNat)
  case atStart => exact ⟨1, by omega, by omega, by simp [Cal.yb_one], rfl⟩
  case round =>
    obtain ⟨q, hq1, hq2, rfl, rfl⟩ := hrel
    have hyb := Cal.yb_bd q hq1 (by omega)
    have hys := Lib.hid (Cal.yb_succ q)
    have hle := Cal.yb_mono q y hq2
    have hle2 := hi.out.1
    have hlq := Lib.hid (show Cal.yl q = if Cal.lp q = true then 366 else 365 from rfl)
    obtain ⟨L, hL⟩ : ∃ L : Int, L = Cal.yl q := ⟨_, rfl⟩
    have hL' := Lib.hid hL
    clear hL
    by_cases hlt : q < y
    · have hge := Cal.yb_mono (q + 1) y (by omega)
      have hge2 : L ≤ n - Cal.yb q := by have := hys.out; have := hL'.out; omega
      have hLb := Cal.yl_bd q
      by_cases hl : Cal.lp q = true
      · have hge3 : 366 ≤ n - Cal.yb q := by have := hlq.out; have := hL'.out; rw [if_pos hl] at *; omega
        go_wp2_with (go_at_call 25; refine (Leap_any _ _ (by omega)).mono ?_; rintro e w' ⟨rfl, rfl⟩)
        go_roundw
        case rel => exact ⟨q + 1, by omega, by omega, by rw [hys.out, hlq.out, if_pos hl]; congr 1; omega, rfl⟩
        case measure => simp [intOf]; omega
      · have hge3 : 365 ≤ n - Cal.yb q := by have := hL'.out; omega
        have hl' : Cal.lp q = false := by simpa using hl
        have hln := Lib.hid hl
        clear hl
        go_wp2_with (go_at_call 25; refine (Leap_any _ _ (by omega)).mono ?_; rintro e w' ⟨rfl, rfl⟩)
        go_roundw
        case rel => exact ⟨q + 1, by omega, by omega, by rw [hys.out, hlq.out, if_neg hln.out]; congr 1; omega, rfl⟩
        case measure => simp [intOf]; omega
    · have hqy : q = y := by omega
      subst hqy
      have hlt2 : n - Cal.yb q < Cal.yl q := by have := hi.out.2; have := hys.out; omega
      clear hq1 hq2 hlt hys hL' hyb hle
      have hcase : (Cal.lp q = true ∧ n - Cal.yb q < 366) ∨ (Cal.lp q = false ∧ n - Cal.yb q < 365) := by
        have := hlq.out
        by_cases hl : Cal.lp q = true
        · rw [if_pos hl] at this; exact .inl ⟨hl, by omega⟩
        · rw [if_neg hl] at this; exact .inr ⟨by simpa using hl, by omega⟩
      clear hlt2 hlq
      rcases hcase with ⟨hl, hlt3⟩ | ⟨hl, hlt3⟩
      all_goals
        have hlh := Lib.hid hl
        go_wp2_with (go_at_call 25; refine (Leap_any _ _ (by omega)).mono ?_; rintro e w' ⟨rfl, rfl⟩)
        clear hl
        have hr := Lib.hid (show n - Cal.yb q = Cal.cm m (Cal.lp q) + d - 1 by have := heq.out; omega)
        go_loopw [5] (fun t wr => ∃ k : Nat, (k : Int) + 1 ≤ m ∧ t = .int .i64 (n - Cal.yb q - Cal.cum k (Cal.lp q)) ∧ Below w.heap.size w wr ∧
          Blk wr w.heap.size 30 #[.int .i64 0, .int .i64 0, .int .i64 0] ∧ Blk wr w1.heap.size 30 #[.int .i64 q, .int .i64 ((k : Int) + 1), .int .i64 1]) (fun t _ => (intOf t).toNat)
        case atStart => exact ⟨0, by omega, by simp [Cal.cum], hB1.alloc (by omega) _, hR.alloc _, Blk.new w1 30 _⟩
        case round =>
          obtain ⟨k, hk, rfl, hBr, hRr, hDr⟩ := hrel
          have hcb := Cal.cum_bd k (Cal.lp q)
          have hdb := Cal.dl_bd ((k : Int) + 1) (Cal.lp q)
          have hlt1 := hDr.lt
          have hlt0 := hRr.lt
          have hx := later_cell (w := wr)
          have hc := hDr.cell
          by_cases hge : Cal.dl ((k : Int) + 1) (Cal.lp q) ≤ n - Cal.yb q - Cal.cum k (Cal.lp q)
          · go_wp2_with fail
            refine wp_region_later (by kernel_rfl) (by kernel_rfl) ?_
            repeat (go_big_quiet_step (first
              | (go_at_call 25; exact later_same (Leap_any _ _ (by omega)))
              | (go_at_call 24; exact later_call (rLength_any _ _ _ (by omega) (by omega)))))
            refine wpQuiet_nil ?_
            rintro w2 ⟨⟨_, hb2⟩, rfl⟩
            have hD2 := hDr.later hb2
            have hR2 := hRr.later hb2
            have hz2 := hD2.lt
            have hz3 := hR2.lt
            have hx2 := later_cell (w := w2)
            have hc2 := hD2.cell
            go_wp2_with fail
            refine wp_region_later (by kernel_rfl) (by kernel_rfl) ?_
            repeat (go_big_quiet_step (first
              | (go_at_call 25; exact later_same (Leap_any _ _ (by omega)))
              | (go_at_call 24; exact later_call (rLength_any _ _ _ (by omega) (by omega)))))
            refine wpQuiet_nil ?_
            rintro w3 ⟨⟨_, hb3⟩, rfl⟩
            have hD3 := hD2.later hb3
            have hR3 := hR2.later hb3
            have hz4 := hD3.lt
            have hz5 := hR3.lt
            have hc3 := hD3.cell
            have hf3 := hD3.frozen
            clear hx hx2 hc hc2
            go_wp2_with fail
            go_roundw
            case rel =>
              have hk2 := Cal.month_lt (k := k) h3 h6 (by rw [Cal.cum_succ, ← hr.out]; omega)
              refine ⟨k + 1, by omega, by rw [Cal.cum_succ]; congr 1; omega, ((hBr.trans (hb2.mono (by omega))).trans (hb3.mono (by omega))).setCell (by simp; omega) _, hR3.far (by simp; omega) _, ?_⟩
              have := hD3.set_ 1 (.int .i64 ((k : Int) + 1 + 1))
              simpa using this
            case measure => simp [intOf]; omega
          · have hm : m = (k : Int) + 1 := Cal.month_eq h5 hk (by rw [Cal.cum_succ, ← hr.out]; omega)
            have hd : Hid (n - Cal.yb q - Cal.cum k (Cal.lp q) + 1 = d) := by
              have := hr.out
              rw [hm, Cal.cm_nat] at this
              show _ = _
              omega
            have hmh := Lib.hid hm
            clear hm
            go_wp2_with fail
            refine wp_region_later (by kernel_rfl) (by kernel_rfl) ?_
            repeat (go_big_quiet_step (first
              | (go_at_call 25; exact later_same (Leap_any _ _ (by omega)))
              | (go_at_call 24; exact later_call (rLength_any _ _ _ (by omega) (by omega)))))
            refine wpQuiet_nil ?_
            rintro w2 ⟨⟨_, hb2⟩, rfl⟩
            have hD2 := hDr.later hb2
            have hR2 := hRr.later hb2
            have hz2 := hD2.lt
            have hz3 := hR2.lt
            have hc2 := hD2.cell
            have hf2 := hD2.frozen
            have hc3 := hR2.cell
            have hf3 := hR2.frozen
            clear hx hc
            go_wp2_with fail
            refine bodyPost_cell w.heap.size 30 #[.int .i64 q, .int .i64 ((k : Int) + 1), .int .i64 (1 + (n - Cal.yb q - Cal.cum k (Cal.lp q)))] (.tuple #[D3 q ((k : Int) + 1) (1 + (n - Cal.yb q - Cal.cum k (Cal.lp q))), .bool true]) ?_ ?_ ⟨?_, ?_⟩
            · exact (((hR2.far (p := ⟨w1.heap.size, 2, none⟩) (by simp; omega) _).set_ 0 _).set_ 1 _).set_ 2 _
            · intro W' hW'
              simp [results, Try.results46, go_sem, hW']
            · rw [← hd.out, hmh.out, Int.add_comm 1]
            · exact ((((hBr.trans (hb2.mono (by omega))).setCell (by simp; omega) _).setCell (by simp) _).setCell (by simp) _).setCell (by simp) _
end Go.Proofs.Ytjlnkghjiaglmaa
