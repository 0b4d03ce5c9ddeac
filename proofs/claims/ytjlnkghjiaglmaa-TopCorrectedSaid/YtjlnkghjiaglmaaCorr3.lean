/-
  Contracts of Correct, Midnight, Pushes of package dial where they refuse; of Correct at every push; of the reference's Midnight; of fewer.
  Conditions: as said.
-/
import Derived.Test.YtjlnkghjiaglmaaFaceNo
import Derived.Test.YtjlnkghjiaglmaaRPush
namespace Go.Proofs.Ytjlnkghjiaglmaa
open Go.RowKit

/-- A face behind a push. -/
def Fc.corr (p : Int) (f : Fc) : Fc := if p = 1 then f.day else if p = 2 then f.pushM else if p = 3 then f.wday else f.moon
theorem Fc.corr_ok {f : Fc} (p : Int) (h : f.ok) : (f.corr p).ok := by
  unfold Fc.corr
  split
  · exact Fc.day_ok h
  split
  · exact Fc.pushM_ok h
  split
  · exact Fc.wday_ok h
  · exact Fc.moon_ok h
theorem Correct_yes (f : Fc) (p : Int) (w : World) (h : f.ok) (h1 : 1 ≤ p) (h2 : p ≤ 4) :
    Calls Try.prog 52 #[f.val, .int .i64 p] w fun e w' => e = .returned (.tuple #[(f.corr p).val, .int .i64 0]) ∧ Below w.heap.size w w' := by
  have e : p = 1 ∨ p = 2 ∨ p = 3 ∨ p = 4 := by omega
  rcases e with rfl | rfl | rfl | rfl
  · exact Correct_day f w h
  · exact Correct_month f w h
  · exact Correct_weekday f w h
  · exact Correct_moon f w h
theorem rCorrect_yes (f : Fc) (p : Int) (w : World) (h : f.ok) (h1 : 1 ≤ p) (h2 : p ≤ 4) :
    Calls Try.prog 54 #[f.val, .int .i64 p] w fun e w' => e = .returned (f.corr p).val ∧ Below w.heap.size w w' := by
  have e : p = 1 ∨ p = 2 ∨ p = 3 ∨ p = 4 := by omega
  rcases e with rfl | rfl | rfl | rfl
  · exact rCorrect_day f w h
  · exact rCorrect_month f w h
  · exact rCorrect_weekday f w h
  · exact rCorrect_moon f w h

theorem Z5_back {w w' : World} {g : Nat} (h : Blk w g 52 Z5) (e : w' = ((((w.setCell ⟨g, 0, none⟩ (.int .i64 0)).setCell ⟨g, 1, none⟩ (.int .i64 0)).setCell ⟨g, 2, none⟩ (.int .i64 0)).setCell ⟨g, 3, none⟩ (.int .i64 0)).setCell ⟨g, 4, none⟩ (.int .i64 0)) : Blk w' g 52 Z5 := by
  rw [e]
  exact ((((h.set_ 0 _).set_ 1 _).set_ 2 _).set_ 3 _).set_ 4 _
theorem Z5_below {w w' : World} {B g : Nat} {a : World} (h : Below B a w) (hg : B ≤ g) (e : w' = ((((w.setCell ⟨g, 0, none⟩ (.int .i64 0)).setCell ⟨g, 1, none⟩ (.int .i64 0)).setCell ⟨g, 2, none⟩ (.int .i64 0)).setCell ⟨g, 3, none⟩ (.int .i64 0)).setCell ⟨g, 4, none⟩ (.int .i64 0)) : Below B a w' := by
  rw [e]
  exact ((((h.setCell hg _).setCell hg _).setCell hg _).setCell hg _).setCell hg _

set_option maxHeartbeats 1000000 in
theorem Correct_no (f : Fc) (p : Int) (w : World) (h : ¬ (f.ok ∧ 1 ≤ p ∧ p ≤ 4)) :
    Calls Try.prog 52 #[f.val, .int .i64 p] w fun e w' => e = .returned (.tuple #[.agg Z5, .int .i64 1]) ∧ Below w.heap.size w w' := by
  have hR := Blk.new1 w (.cells f.cells 52) 52 Z5
  have hbw := below2 w (.cells f.cells 52) (.cells Z5 52)
  by_cases hf : f.ok
  · have b1 : (p == 1) = false := by simp; rintro rfl; exact h ⟨hf, by omega, by omega⟩
    have b2 : (p == 2) = false := by simp; rintro rfl; exact h ⟨hf, by omega, by omega⟩
    have b3 : (p == 3) = false := by simp; rintro rfl; exact h ⟨hf, by omega, by omega⟩
    have b4 : (p == 4) = false := by simp; rintro rfl; exact h ⟨hf, by omega, by omega⟩
    have hV := fun w => Lib.hid (face_yes f w hf)
    have HV := Lib.hid hV
    clear hV hf h
    go_enter Try.func52, Try.ntmps52
    go_wp2_with fail
    refine (HV.out _).out.mono ?_; rintro e w1 ⟨rfl, hb1⟩
    have hR1 := hR.later hb1
    have l1 := hR1.lt
    have c1 := hR1.cell
    have kf := hR1.frozen
    have hbw1 := hbw.trans (hb1.mono (by simp; omega))
    go_wp2_with fail
    refine bodyPost_cell (w.heap.size + 1) 52 Z5 (.tuple #[.agg Z5, .int .i64 1]) (Z5_back hR1 rfl) ?_ ⟨rfl, Z5_below hbw1 (by omega) rfl⟩
    intro W' hW'
    simp [results, Try.results52, go_sem, hW']
  · have hV := fun w => Lib.hid (face_no f w hf)
    have HV := Lib.hid hV
    clear hV hf h
    go_enter Try.func52, Try.ntmps52
    go_wp2_with fail
    refine (HV.out _).out.mono ?_; rintro e w1 ⟨rfl, hb1⟩
    have hR1 := hR.later hb1
    have l1 := hR1.lt
    have c1 := hR1.cell
    have kf := hR1.frozen
    have hbw1 := hbw.trans (hb1.mono (by simp; omega))
    go_wp2_with fail
    refine bodyPost_cell (w.heap.size + 1) 52 Z5 (.tuple #[.agg Z5, .int .i64 1]) (Z5_back hR1 rfl) ?_ ⟨rfl, Z5_below hbw1 (by omega) rfl⟩
    intro W' hW'
    simp [results, Try.results52, go_sem, hW']

set_option maxHeartbeats 1000000 in
theorem Midnight_no (f : Fc) (n : Int) (w : World) (h : ¬ (f.ok ∧ 0 ≤ n ∧ n ≤ 100000)) :
    Calls Try.prog 50 #[f.val, .int .i64 n] w fun e w' => e = .returned (.tuple #[.agg Z5, .int .i64 1]) ∧ Below w.heap.size w w' := by
  have hR := Blk.new1 w (.cells f.cells 52) 52 Z5
  have hbw := below2 w (.cells f.cells 52) (.cells Z5 52)
  by_cases hf : f.ok
  · have hn : n < 0 ∨ (0 ≤ n ∧ 100000 < n) := by
      by_cases h0 : 0 ≤ n
      · right; exact ⟨h0, by have : ¬ n ≤ 100000 := fun h1 => h ⟨hf, h0, h1⟩; omega⟩
      · left; omega
    have hV := fun w => Lib.hid (face_yes f w hf)
    have HV := Lib.hid hV
    clear hV hf h
    rcases hn with h0 | ⟨h0, h1⟩
    all_goals
      go_enter Try.func50, Try.ntmps50
      go_wp2_with fail
      refine (HV.out _).out.mono ?_; rintro e w1 ⟨rfl, hb1⟩
      have hR1 := hR.later hb1
      have l1 := hR1.lt
      have c1 := hR1.cell
      have kf := hR1.frozen
      have hbw1 := hbw.trans (hb1.mono (by simp; omega))
      go_wp2_with fail
      refine bodyPost_cell (w.heap.size + 1) 52 Z5 (.tuple #[.agg Z5, .int .i64 1]) (Z5_back hR1 rfl) ?_ ⟨rfl, Z5_below hbw1 (by omega) rfl⟩
      intro W' hW'
      simp [results, Try.results50, go_sem, hW']
  · have hV := fun w => Lib.hid (face_no f w hf)
    have HV := Lib.hid hV
    clear hV hf h
    go_enter Try.func50, Try.ntmps50
    go_wp2_with fail
    refine (HV.out _).out.mono ?_; rintro e w1 ⟨rfl, hb1⟩
    have hR1 := hR.later hb1
    have l1 := hR1.lt
    have c1 := hR1.cell
    have kf := hR1.frozen
    have hbw1 := hbw.trans (hb1.mono (by simp; omega))
    go_wp2_with fail
    refine bodyPost_cell (w.heap.size + 1) 52 Z5 (.tuple #[.agg Z5, .int .i64 1]) (Z5_back hR1 rfl) ?_ ⟨rfl, Z5_below hbw1 (by omega) rfl⟩
    intro W' hW'
    simp [results, Try.results50, go_sem, hW']

set_option maxHeartbeats 1000000 in
theorem Pushes_no (f t : Fc) (w : World) (h : ¬ (f.ok ∧ t.ok)) :
    Calls Try.prog 56 #[f.val, t.val] w fun e w' => e = .returned (.tuple #[.int .i64 0, .int .i64 0, .int .i64 0, .int .i64 0, .int .i64 1]) ∧ Below w.heap.size w w' := by
  have hA := (Blk.new w 52 f.cells).alloc (.cells t.cells 52)
  have hB := Blk.new1 w (.cells f.cells 52) 52 t.cells
  have hbw := below2 w (.cells f.cells 52) (.cells t.cells 52)
  by_cases hf : f.ok
  · have ht : ¬ t.ok := fun ht => h ⟨hf, ht⟩
    have hV := fun w => Lib.hid (face_yes f w hf)
    have HV := Lib.hid hV
    have hT := fun w => Lib.hid (face_no t w ht)
    have HT := Lib.hid hT
    clear hV hT hf ht h
    go_enter Try.func56, Try.ntmps56
    go_wp2_with fail
    refine (HV.out _).out.mono ?_; rintro e w1 ⟨rfl, hb1⟩
    have hB1 := hB.later hb1
    have l1 := hB1.lt
    have c1 := hB1.cell
    go_wp2_with fail
    refine (HT.out _).out.mono ?_; rintro e w2 ⟨rfl, hb2⟩
    go_wp2_with fail
    refine bodyPost_ret (results_tmp5' rfl _ _ _) rfl ⟨rfl, (hbw.trans (hb1.mono (by simp; omega))).trans (hb2.mono (by omega))⟩
  · have hV := fun w => Lib.hid (face_no f w hf)
    have HV := Lib.hid hV
    clear hV hf h
    go_enter Try.func56, Try.ntmps56
    go_wp2_with fail
    refine (HV.out _).out.mono ?_; rintro e w1 ⟨rfl, hb1⟩
    go_wp2_with fail
    refine bodyPost_ret (results_tmp5' rfl _ _ _) rfl ⟨rfl, hbw.trans (hb1.mono (by simp; omega))⟩

/-- A number of nights that may be, brought down. -/
def fewN (n most : Int) : Int := if most < n ∧ n ≤ 100000 then n % (most + 1) else n
theorem fewN_cases (n most : Int) : (decide (most < n) = true ∧ decide (n ≤ 100000) = true ∧ Hid (fewN n most = n % (most + 1))) ∨ (decide (most < n) = false ∧ Hid (fewN n most = n)) ∨ (decide (most < n) = true ∧ decide (n ≤ 100000) = false ∧ Hid (fewN n most = n)) := by
  by_cases h1 : most < n
  · by_cases h2 : n ≤ 100000
    · exact .inl ⟨decide_eq_true h1, decide_eq_true h2, if_pos ⟨h1, h2⟩⟩
    · exact .inr (.inr ⟨decide_eq_true h1, decide_eq_false h2, if_neg fun h => h2 h.2⟩)
  · exact .inr (.inl ⟨decide_eq_false h1, if_neg fun h => h1 h.1⟩)
theorem fewN_bd (n most : Int) (h1 : 0 ≤ most) (h2 : most ≤ 10000) : fewN n most ≤ most ∨ 100000 < fewN n most := by
  unfold fewN
  split
  · left; have := Int.emod_lt_of_pos n (show 0 < most + 1 by omega); omega
  · omega

set_option maxHeartbeats 400000 in
theorem fewer_any (n most : Int) (w : World) (h1 : 0 ≤ most) (h2 : most ≤ 10000) :
    Calls Try.prog 51 #[.int .i64 n, .int .i64 most] w fun e w' => e = .returned (.int .i64 (fewN n most)) ∧ w = w' := by
  rcases fewN_cases n most with ⟨b1, b2, H⟩ | ⟨b1, H⟩ | ⟨b1, b2, H⟩
  · have h3 : most < n := of_decide_eq_true b1
    go_enter Try.func51, Try.ntmps51
    go_wp2
    go_ret
    exact ⟨by rw [H.out]; rfl, rfl⟩
  · go_enter Try.func51, Try.ntmps51
    go_wp2
    go_ret
    exact ⟨by rw [H.out]; rfl, rfl⟩
  · go_enter Try.func51, Try.ntmps51
    go_wp2
    go_ret
    exact ⟨by rw [H.out]; rfl, rfl⟩

set_option maxHeartbeats 1000000 in
theorem rMidnight_any (f : Fc) (n : Int) (w : World) (h : f.ok) (h1 : 0 ≤ n) (h2 : n ≤ 100000) :
    Calls Try.prog 53 #[f.val, .int .i64 n] w fun e w' => e = .returned (Fc.nights n.toNat f).val ∧ Below w.heap.size w w' := by
  have hall := Lib.hid (Fc.nights_ok h)
  clear h
  have hB := (Blk.new w 52 f.cells).alloc (.cells Z5 52)
  have hR := Blk.new1 w (.cells f.cells 52) 52 Z5
  have hbw := below2 w (.cells f.cells 52) (.cells Z5 52)
  go_enter Try.func53, Try.ntmps53
  go_wp2_with fail
  go_loopw [5] (fun i wr => ∃ k : Nat, (k : Int) ≤ n ∧ i = .int .i64 k ∧ Blk wr w.heap.size 52 (Fc.nights k f).cells ∧ Blk wr (w.heap.size + 1) 52 Z5 ∧ Below w.heap.size w wr) (fun i _ => (n - intOf i).toNat)
  case atStart => exact ⟨0, h1, rfl, hB, hR, hbw⟩
  case round =>
    clear hB hR hbw
    obtain ⟨k, hk, rfl, hBr, hRr, hbr⟩ := hrel
    have hc := hBr.cell
    have hf := hBr.frozen
    have hz := hRr.lt
    by_cases hlt : (k : Int) < n
    · have g1 := hall.out k
      have g2 := Fc.day_ok g1
      have g3 := Fc.wday_ok g2
      have hm1 := fun w => Lib.hid (rCorrect_day (Fc.nights k f) w g1)
      have hm2 := fun w => Lib.hid (rCorrect_weekday (Fc.nights k f).day w g2)
      have hm3 := fun w => Lib.hid (rCorrect_moon (Fc.nights k f).day.wday w g3)
      have HM1 := Lib.hid hm1
      have HM2 := Lib.hid hm2
      have HM3 := Lib.hid hm3
      clear hm1 hm2 hm3 g1 g2 g3
      go_wp2_with fail
      refine (HM1.out _).out.mono ?_; rintro e w2 ⟨rfl, hb2⟩
      have hB2 := hBr.later hb2
      have hR2 := hRr.later hb2
      go_wp2_with fail
      refine (HM2.out _).out.mono ?_; rintro e w3 ⟨rfl, hb3⟩
      have hB3 := hB2.later hb3
      have hR3 := hR2.later hb3
      have s2 := hb2.size
      have s3 := hb3.size
      go_wp2_with fail
      refine (HM3.out _).out.mono ?_; rintro e w4 ⟨rfl, hb4⟩
      have hB4 := hB3.later hb4
      have hR4 := hR3.later hb4
      have hc2 := hB4.cell
      have hf2 := hB4.frozen
      have hz2 := hR4.lt
      clear hc hf
      go_wp2_with fail
      go_roundw
      case rel =>
        refine ⟨k + 1, by omega, by go_num, ?_, ?_, ?_⟩
        · exact ((((hB4.set_ 0 _).set_ 1 _).set_ 2 _).set_ 3 _).set_ 4 _
        · exact ((((hR4.far (by simp) _).far (by simp) _).far (by simp) _).far (by simp) _).far (by simp) _
        · have t := ((hbr.trans (hb2.mono (by omega))).trans (hb3.mono (by omega))).trans (hb4.mono (by omega))
          exact ((((t.setCell (by simp) _).setCell (by simp) _).setCell (by simp) _).setCell (by simp) _).setCell (by simp) _
      case measure => simp [intOf]; omega
    · obtain rfl : n = (k : Int) := by omega
      have hc2 := hRr.cell
      have hf2 := hRr.frozen
      go_wp2_with fail
      refine bodyPost_cell (w.heap.size + 1) 52 (Fc.nights k f).cells (Fc.nights k f).val ?_ ?_ ⟨by simp, ?_⟩
      · exact ((((hRr.set_ 0 _).set_ 1 _).set_ 2 _).set_ 3 _).set_ 4 _
      · intro W' hW'
        simp [results, Try.results53, go_sem, hW']
      · exact ((((hbr.setCell (by simp) _).setCell (by simp) _).setCell (by simp) _).setCell (by simp) _).setCell (by simp) _
end Go.Proofs.Ytjlnkghjiaglmaa
