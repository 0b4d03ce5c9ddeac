/-
  The contract of Pushes of package dial at valid faces.
  Conditions: as said.
-/
import Derived.Test.YtjlnkghjiaglmaaPmath
import Derived.Test.YtjlnkghjiaglmaaCorr2
namespace Go.Proofs.Ytjlnkghjiaglmaa
open Go.RowKit

/-- What Pushes returns. -/
def pushV (f t : Fc) : Value :=
  if (f.reached t).D ≤ t.D then .tuple #[.int .i64 (t.D - (f.reached t).D), .int .i64 (f.far t), .int .i64 (f.farW t), .int .i64 (f.farO t), .int .i64 0]
  else .tuple #[.int .i64 0, .int .i64 0, .int .i64 0, .int .i64 0, .int .i64 6]

theorem day_step (t : Fc) (ht : t.ok) (x : Int) (h1 : 1 ≤ x) (h2 : x < t.D) (w : World) :
    Calls Try.prog 72 #[.agg #[.int .i64 x, .int .i64 t.M, .int .i64 t.L, .int .i64 t.W, .int .i64 t.O]] w fun e w' =>
      e = .returned (.agg #[.int .i64 (x + 1), .int .i64 t.M, .int .i64 t.L, .int .i64 t.W, .int .i64 t.O]) ∧ Below w.heap.size w w' := by
  have hl := ht.2.2.2.2.2.1
  have h := day_any ⟨x, t.M, t.L, t.W, t.O⟩ w ht.okM h1 (by show x ≤ t.lst; omega)
  rw [Fc.day_at (f := t) (by omega)] at h
  exact h

theorem results_tmp5' {fn : Func} {t u v x y : Tmp} (h : fn.results = #[.tmp t, .tmp u, .tmp v, .tmp x, .tmp y]) (tmps : Array Value) (P : Program) (w : World) :
    (results fn tmps).run P w = .ok (.tuple #[tmps.getD t undef, tmps.getD u undef, tmps.getD v undef, tmps.getD x undef, tmps.getD y undef]) w := by simp [results, h]

theorem forget3 {F G : World → Prop} {W0 : World} (h : F W0) (k : ∀ W, F W → G W) : G W0 := k W0 h

set_option maxHeartbeats 2000000 in
theorem Pushes_any (f t : Fc) (w : World) (h : f.ok) (ht : t.ok) :
    Calls Try.prog 56 #[f.val, t.val] w fun e w' => e = .returned (pushV f t) ∧ Below w.heap.size w w' := by
  have hf := fun w => Lib.hid (face_yes f w h)
  have hg := fun w => Lib.hid (face_yes t w ht)
  have HF := Lib.hid hf
  have HG := Lib.hid hg
  have hall := Lib.hid (Fc.pushMs_ok h)
  have HH := Lib.hid h
  have HT := Lib.hid ht
  obtain ⟨_, _, _, _, _, _, f7, f8, f9, f10⟩ := h
  obtain ⟨_, _, _, _, t5, _, t7, t8, t9, t10⟩ := ht
  have hfb1 := (Fc.far_bd f t).1
  have hfb2 := (Fc.far_bd f t).2
  clear hf hg
  have hA := (Blk.new w 52 f.cells).alloc (.cells t.cells 52)
  have hB := Blk.new1 w (.cells f.cells 52) 52 t.cells
  have hbw := below2 w (.cells f.cells 52) (.cells t.cells 52)
  go_enter Try.func56, Try.ntmps56
  go_wp2_with fail
  refine (HF.out _).out.mono ?_; rintro e w1 ⟨rfl, hb1⟩
  have hA1 := hA.later hb1
  have hB1 := hB.later hb1
  have l1 := hB1.lt
  have hbw1 := hbw.trans (hb1.mono (by simp; omega))
  have k1 := hB1.cell
  clear hA hB hbw hb1
  go_wp2_with fail
  refine (HG.out _).out.mono ?_; rintro e w2 ⟨rfl, hb2⟩
  have hA2 := hA1.later hb2
  have hB2 := hB1.later hb2
  have hbw2 := hbw1.trans (hb2.mono (by omega))
  have kA := hA2.cell
  have kB := hB2.cell
  clear k1 hb2 hA1 hB1 hbw1
  go_wp2_with fail
  clear kA kB
  rw [show (t.W - f.W + 7) % 7 = f.farW t from rfl, show (t.O - f.O + 59) % 59 = f.farO t from rfl]
  go_loopw [11] (fun i wr => ∃ k : Nat, (k : Int) ≤ f.far t ∧ i = .int .i64 k ∧ Blk wr w.heap.size 52 (Fc.pushMs k f).cells ∧ Blk wr (w.heap.size + 1) 52 t.cells ∧ Below w.heap.size w wr) (fun i _ => (f.far t - intOf i).toNat)
  case atStart => exact ⟨0, hfb1, rfl, hA2, hB2, hbw2⟩
  case round =>
    clear hA2 hB2 hbw2 l1
    obtain ⟨k, hk, rfl, hAr, hBr, hbr⟩ := hrel
    have cA := hAr.cell
    have fA := hAr.frozen
    have cB := hBr.cell
    have lB := hBr.lt
    by_cases hM : (Fc.pushMs k f).M = t.M ∧ (Fc.pushMs k f).L = t.L
    · have hkf := Fc.reached_at HH.out HT.out hk hM
      have HK := Lib.hid (show Fc.reached f t = Fc.pushMs k f by unfold Fc.reached; rw [← hkf]; simp)
      have HKF := Lib.hid hkf
      have hok := hall.out k
      clear hkf hk hall
      generalize Fc.pushMs k f = g at *
      obtain ⟨D, M, L, W, O⟩ := g
      obtain ⟨e1, e2⟩ := hM
      simp only at e1 e2
      subst e1 e2
      have hD1 : 1 ≤ D := hok.2.2.2.2.1
      have hD2 : D ≤ 31 := by have a := hok.2.2.2.2.2.1; have b := (Fc.lst_bd ⟨D, t.M, t.L, W, O⟩).2; exact Int.le_trans a b
      have hD3 : t.D ≤ 31 := by have a := HT.out.2.2.2.2.2.1; have b := (Fc.lst_bd t).2; omega
      clear hok
      by_cases hD : D ≤ t.D
      · have HV := Lib.hid (show pushV f t = .tuple #[.int .i64 (t.D - D), .int .i64 (f.far t), .int .i64 (f.farW t), .int .i64 (f.farO t), .int .i64 0] by unfold pushV; rw [HK.out]; exact if_pos hD)
        go_wp2_with fail
        go_region
        all_goals
          refine forget3 (F := fun X => Blk X w.heap.size 52 #[.int .i64 D, .int .i64 t.M, .int .i64 t.L, .int .i64 t.W, .int .i64 t.O] ∧ Blk X (w.heap.size + 1) 52 t.cells ∧ Below w.heap.size w X) ?_ ?_
          · refine ⟨?_, ?_, ?_⟩
            · first | exact ((hAr.set_ 3 _).set_ 4 _).drew | exact ((hAr.set_ 4 _).set_ 3 _).drew
            · exact ((hBr.far (by simp) _).far (by simp) _).drew
            · exact ((hbr.setCell (by simp) _).setCell (by simp) _).drew
          clear hAr hBr hbr cA fA cB lB
          rintro X ⟨hAX, hBX, hbX⟩
          go_wp2_with fail
          go_loopw [12] (fun i wr => ∃ j : Nat, D + (j : Int) ≤ t.D ∧ i = .int .i64 j ∧ Blk wr w.heap.size 52 #[.int .i64 (D + (j : Int)), .int .i64 t.M, .int .i64 t.L, .int .i64 t.W, .int .i64 t.O] ∧ Blk wr (w.heap.size + 1) 52 t.cells ∧ Below w.heap.size w wr) (fun i _ => (t.D - D - intOf i).toNat)
          case atStart => exact ⟨0, by omega, rfl, by simpa using hAX, hBX, hbX⟩
          case round =>
            clear hAX hBX hbX
            obtain ⟨j, hj, rfl, hAr, hBr, hbr⟩ := hrel
            have cA := hAr.cell
            have fA := hAr.frozen
            have cB := hBr.cell
            have lB := hBr.lt
            by_cases hlt : D + (j : Int) < t.D
            · have bne : (D + (j : Int) == t.D) = false := by simp; omega
              have hm := fun w => Lib.hid (day_step t HT.out (D + (j : Int)) (by omega) hlt w)
              have HM := Lib.hid hm
              clear hm
              go_wp2_with fail
              refine (HM.out _).out.mono ?_; rintro e w3 ⟨rfl, hb3⟩
              have hA3 := hAr.later hb3
              have hB3 := hBr.later hb3
              have hbr3 := hbr.trans (hb3.mono (by omega))
              have c3 := hA3.cell
              have f3 := hA3.frozen
              have l3 := hB3.lt
              clear cA fA cB
              go_wp2_with fail
              go_roundw
              case rel =>
                refine ⟨j + 1, by omega, by go_num, ?_, ?_, ?_⟩
                · have q := ((((hA3.set_ 0 (.int .i64 (D + (j : Int) + 1))).set_ 1 (.int .i64 t.M)).set_ 2 (.int .i64 t.L)).set_ 3 (.int .i64 t.W)).set_ 4 (.int .i64 t.O)
                  rw [show D + ((j + 1 : Nat) : Int) = D + (j : Int) + 1 by omega]
                  exact q
                · exact ((((hB3.far (by simp) _).far (by simp) _).far (by simp) _).far (by simp) _).far (by simp) _
                · exact ((((hbr3.setCell (by simp) _).setCell (by simp) _).setCell (by simp) _).setCell (by simp) _).setCell (by simp) _
              case measure => simp [intOf]; omega
            · have hje : D + (j : Int) = t.D := by omega
              have HJ := Lib.hid (show (j : Int) = t.D - D by omega)
              have beq : (D + (j : Int) == t.D) = true := by simp; omega
              clear hj hlt hje
              go_wp2_with fail
              refine bodyPost_ret (results_tmp5' rfl _ _ _) rfl ⟨?_, hbr⟩
              rw [HV.out, ← HJ.out, ← HKF.out]
              rfl
      · have HV := Lib.hid (show pushV f t = .tuple #[.int .i64 0, .int .i64 0, .int .i64 0, .int .i64 0, .int .i64 6] by unfold pushV; rw [HK.out]; exact if_neg hD)
        go_wp2_with fail
        refine bodyPost_ret (results_tmp5' rfl _ _ _) rfl ⟨?_, hbr⟩
        rw [HV.out]
        rfl
    · have hkl : (k : Int) < f.far t := by
        rcases Int.lt_or_le (k : Int) (f.far t) with hl | hl
        · exact hl
        · exfalso
          have ek : Fc.pushMs k f = f.reached t := by unfold Fc.reached; congr 1; omega
          exact hM (by rw [ek]; exact Fc.reached_ML HH.out HT.out)
      have hm := fun w => Lib.hid (Correct_month (Fc.pushMs k f) w (hall.out k))
      have HM := Lib.hid hm
      clear hm
      have hcase : ((Fc.pushMs k f).M != t.M) = true ∨ ((Fc.pushMs k f).M != t.M) = false ∧ ((Fc.pushMs k f).L != t.L) = true := by
        by_cases hm : (Fc.pushMs k f).M = t.M
        · right; exact ⟨by simp [hm], by simpa using fun e => hM ⟨hm, e⟩⟩
        · left; simpa using hm
      clear hM
      rcases hcase with b1 | ⟨b1, b2⟩
      all_goals
        go_wp2_with fail
        refine (HM.out _).out.mono ?_; rintro e w3 ⟨rfl, hb3⟩
        have hA3 := hAr.later hb3
        have hB3 := hBr.later hb3
        have hbr3 := hbr.trans (hb3.mono (by omega))
        have c3 := hA3.cell
        have f3 := hA3.frozen
        have l3 := hB3.lt
        clear cA fA cB
        go_wp2_with fail
        go_roundw
        case rel =>
          refine ⟨k + 1, by omega, by go_num, ?_, ?_, ?_⟩
          · exact ((((hA3.set_ 0 _).set_ 1 _).set_ 2 _).set_ 3 _).set_ 4 _
          · exact ((((hB3.far (by simp) _).far (by simp) _).far (by simp) _).far (by simp) _).far (by simp) _
          · exact ((((hbr3.setCell (by simp) _).setCell (by simp) _).setCell (by simp) _).setCell (by simp) _).setCell (by simp) _
        case measure => simp [intOf]; omega
end Go.Proofs.Ytjlnkghjiaglmaa
