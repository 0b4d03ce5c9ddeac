/-
  The contract of the reference's Pushes at valid faces.
  Conditions: as said.
-/
import Derived.Test.YtjlnkghjiaglmaaPush
import Derived.Test.YtjlnkghjiaglmaaRCorr2
import Derived.Test.YtjlnkghjiaglmaaRCorr3
namespace Go.Proofs.Ytjlnkghjiaglmaa
open Go.RowKit

/-- What the reference's Pushes returns. -/
def rPushV (f t : Fc) : Value :=
  if (f.reached t).D ≤ t.D then .tuple #[.int .i64 (t.D - (f.reached t).D), .int .i64 (f.far t), .int .i64 (f.farW t), .int .i64 (f.farO t), .bool true]
  else .tuple #[.int .i64 0, .int .i64 0, .int .i64 0, .int .i64 0, .bool false]

theorem farW_lt {f t : Fc} (_h : 0 ≤ f.W ∧ f.W ≤ 6 ∧ 0 ≤ t.W ∧ t.W ≤ 6) {j : Nat} (hj : (j : Int) < f.farW t) : (f.W + (j : Int)) % 7 ≠ t.W := by unfold Fc.farW at hj; omega
theorem farW_eq {f t : Fc} (h : 0 ≤ f.W ∧ f.W ≤ 6 ∧ 0 ≤ t.W ∧ t.W ≤ 6) {j : Nat} (hj : (j : Int) = f.farW t) : (f.W + (j : Int)) % 7 = t.W := by unfold Fc.farW at hj; omega
theorem farO_lt {f t : Fc} (_h : 0 ≤ f.O ∧ f.O ≤ 58 ∧ 0 ≤ t.O ∧ t.O ≤ 58) {j : Nat} (hj : (j : Int) < f.farO t) : (f.O + (j : Int)) % 59 ≠ t.O := by unfold Fc.farO at hj; omega
theorem farO_eq {f t : Fc} (h : 0 ≤ f.O ∧ f.O ≤ 58 ∧ 0 ≤ t.O ∧ t.O ≤ 58) {j : Nat} (hj : (j : Int) = f.farO t) : (f.O + (j : Int)) % 59 = t.O := by unfold Fc.farO at hj; omega
theorem farW_bd (f t : Fc) : 0 ≤ f.farW t ∧ f.farW t ≤ 6 := by unfold Fc.farW; omega
theorem farO_bd (f t : Fc) : 0 ≤ f.farO t ∧ f.farO t ≤ 58 := by unfold Fc.farO; omega

theorem rday_step (t : Fc) (ht : t.ok) (x W O : Int) (h1 : 1 ≤ x) (h2 : x < t.D) (hW : 0 ≤ W ∧ W ≤ 6) (hO : 0 ≤ O ∧ O ≤ 58) (w : World) :
    Calls Try.prog 54 #[.agg #[.int .i64 x, .int .i64 t.M, .int .i64 t.L, .int .i64 W, .int .i64 O], .int .i64 1] w fun e w' =>
      e = .returned (.agg #[.int .i64 (x + 1), .int .i64 t.M, .int .i64 t.L, .int .i64 W, .int .i64 O]) ∧ Below w.heap.size w w' := by
  have hl := ht.2.2.2.2.2.1
  have h := rCorrect_day ⟨x, t.M, t.L, W, O⟩ w ⟨ht.1, ht.2.1, ht.2.2.1, ht.2.2.2.1, h1, (by show x ≤ t.lst; omega), hW.1, hW.2, hO.1, hO.2⟩
  have e : Fc.day ⟨x, t.M, t.L, W, O⟩ = ⟨x + 1, t.M, t.L, W, O⟩ := Fc.day_in (f := ⟨x, t.M, t.L, W, O⟩) (by show x < t.lst; omega)
  rw [e] at h
  exact h
theorem rwday_step (t : Fc) (ht : t.ok) (W O : Int) (hW : 0 ≤ W ∧ W ≤ 6) (hO : 0 ≤ O ∧ O ≤ 58) (w : World) :
    Calls Try.prog 54 #[.agg #[.int .i64 t.D, .int .i64 t.M, .int .i64 t.L, .int .i64 W, .int .i64 O], .int .i64 3] w fun e w' =>
      e = .returned (.agg #[.int .i64 t.D, .int .i64 t.M, .int .i64 t.L, .int .i64 ((W + 1) % 7), .int .i64 O]) ∧ Below w.heap.size w w' :=
  rCorrect_weekday ⟨t.D, t.M, t.L, W, O⟩ w ⟨ht.1, ht.2.1, ht.2.2.1, ht.2.2.2.1, ht.2.2.2.2.1, ht.2.2.2.2.2.1, hW.1, hW.2, hO.1, hO.2⟩
theorem rmoon_step (t : Fc) (ht : t.ok) (O : Int) (hO : 0 ≤ O ∧ O ≤ 58) (w : World) :
    Calls Try.prog 54 #[.agg #[.int .i64 t.D, .int .i64 t.M, .int .i64 t.L, .int .i64 t.W, .int .i64 O], .int .i64 4] w fun e w' =>
      e = .returned (.agg #[.int .i64 t.D, .int .i64 t.M, .int .i64 t.L, .int .i64 t.W, .int .i64 ((O + 1) % 59)]) ∧ Below w.heap.size w w' :=
  rCorrect_moon ⟨t.D, t.M, t.L, t.W, O⟩ w ⟨ht.1, ht.2.1, ht.2.2.1, ht.2.2.2.1, ht.2.2.2.2.1, ht.2.2.2.2.2.1, ht.2.2.2.2.2.2.1, ht.2.2.2.2.2.2.2.1, hO.1, hO.2⟩

set_option maxHeartbeats 4000000 in
theorem rPushes_any (f t : Fc) (w : World) (h : f.ok) (ht : t.ok) :
    Calls Try.prog 57 #[f.val, t.val] w fun e w' => e = .returned (rPushV f t) ∧ Below w.heap.size w w' := by
  have hall := Lib.hid (Fc.pushMs_ok h)
  have HH := Lib.hid h
  have HT := Lib.hid ht
  obtain ⟨_, _, _, _, _, _, f7, f8, f9, f10⟩ := h
  obtain ⟨_, _, _, _, t5, _, t7, t8, t9, t10⟩ := ht
  have hfb1 := (Fc.far_bd f t).1
  have hfb2 := (Fc.far_bd f t).2
  have hwb1 := (farW_bd f t).1
  have hwb2 := (farW_bd f t).2
  have hob1 := (farO_bd f t).1
  have hob2 := (farO_bd f t).2
  have hB := (Blk.new1 w (.cells f.cells 52) 52 t.cells).alloc (.cells f.cells 52)
  have hC := Blk.new1 (w.alloc (.cells f.cells 52)) (.cells t.cells 52) 52 f.cells
  rw [World.size_alloc] at hC
  have hbw := (below2 w (.cells f.cells 52) (.cells t.cells 52)).alloc (by simp; omega) (.cells f.cells 52)
  go_enter Try.func57, Try.ntmps57
  go_wp2_with fail
  go_loopw [11] (fun i wr => ∃ k : Nat, (k : Int) ≤ f.far t ∧ i = .int .i64 k ∧ Blk wr (w.heap.size + 1 + 1) 52 (Fc.pushMs k f).cells ∧ Blk wr (w.heap.size + 1) 52 t.cells ∧ Below w.heap.size w wr) (fun i _ => (f.far t - intOf i).toNat)
  case atStart => exact ⟨0, hfb1, rfl, hC, hB, hbw⟩
  case round =>
    clear hC hB hbw
    obtain ⟨k, hk, rfl, hAr, hBr, hbr⟩ := hrel
    have cA := hAr.cell
    have fA := hAr.frozen
    have cB := hBr.cell
    have lB := hAr.lt
    by_cases hM : (Fc.pushMs k f).M = t.M ∧ (Fc.pushMs k f).L = t.L
    · have hkf := Fc.reached_at HH.out HT.out hk hM
      have HK := Lib.hid (show Fc.reached f t = Fc.pushMs k f by unfold Fc.reached; rw [← hkf]; simp)
      have HKF := Lib.hid hkf
      have hok := hall.out k
      have eW := Fc.pushMs_W f k
      have eO := Fc.pushMs_O f k
      clear hkf hk hall
      generalize Fc.pushMs k f = g at *
      obtain ⟨D, M, L, W, O⟩ := g
      obtain ⟨e1, e2⟩ := hM
      simp only at e1 e2 eW eO
      subst e1 e2 eW eO
      have hD1 : 1 ≤ D := hok.2.2.2.2.1
      have hD2 : D ≤ 31 := by have a := hok.2.2.2.2.2.1; have b := (Fc.lst_bd ⟨D, t.M, t.L, f.W, f.O⟩).2; exact Int.le_trans a b
      have hD3 : t.D ≤ 31 := by have a := HT.out.2.2.2.2.2.1; have b := (Fc.lst_bd t).2; omega
      clear hok
      by_cases hD : D ≤ t.D
      · have HV := Lib.hid (show rPushV f t = .tuple #[.int .i64 (t.D - D), .int .i64 (f.far t), .int .i64 (f.farW t), .int .i64 (f.farO t), .bool true] by unfold rPushV; rw [HK.out]; exact if_pos hD)
        go_wp2_with fail
        go_loopw [10] (fun i wr => ∃ j : Nat, D + (j : Int) ≤ t.D ∧ i = .int .i64 j ∧ Blk wr (w.heap.size + 1 + 1) 52 #[.int .i64 (D + (j : Int)), .int .i64 t.M, .int .i64 t.L, .int .i64 f.W, .int .i64 f.O] ∧ Blk wr (w.heap.size + 1) 52 t.cells ∧ Below w.heap.size w wr) (fun i _ => (t.D - D - intOf i).toNat)
        case atStart => exact ⟨0, by omega, rfl, by simpa using hAr, hBr, hbr⟩
        case round =>
          clear hAr hBr hbr cA fA cB lB
          obtain ⟨j, hj, rfl, hAr, hBr, hbr⟩ := hrel
          have cA := hAr.cell
          have fA := hAr.frozen
          have cB := hBr.cell
          have lB := hAr.lt
          by_cases hlt : D + (j : Int) < t.D
          · have bne : (D + (j : Int) != t.D) = true := by simp; omega
            have hm := fun w => Lib.hid (rday_step t HT.out (D + (j : Int)) f.W f.O (by omega) hlt ⟨f7, f8⟩ ⟨f9, f10⟩ w)
            have HM := Lib.hid hm
            clear hm
            go_wp2_with fail
            refine (HM.out _).out.mono ?_; rintro e w3 ⟨rfl, hb3⟩
            have hA3 := hAr.later hb3
            have hB3 := hBr.later hb3
            have hbr3 := hbr.trans (hb3.mono (by omega))
            have c3 := hA3.cell
            have f3 := hA3.frozen
            have l3 := hA3.lt
            clear cA fA cB
            go_wp2_with fail
            go_roundw
            case rel =>
              refine ⟨j + 1, by omega, by go_num, ?_, ?_, ?_⟩
              · have q := ((((((hA3.set_ 0 (.int .i64 (D + (j : Int) + 1))).set_ 1 (.int .i64 t.M)).set_ 2 (.int .i64 t.L)).set_ 3 (.int .i64 f.W)).set_ 4 (.int .i64 f.O)))
                rw [show D + ((j + 1 : Nat) : Int) = D + (j : Int) + 1 by omega]
                exact q
              · exact ((((hB3.far (by simp) _).far (by simp) _).far (by simp) _).far (by simp) _).far (by simp) _
              · exact ((((hbr3.setCell (by simp; omega) _).setCell (by simp; omega) _).setCell (by simp; omega) _).setCell (by simp; omega) _).setCell (by simp; omega) _
            case measure => simp [intOf]; omega
          · have hje : D + (j : Int) = t.D := by omega
            have HJ := Lib.hid (show (j : Int) = t.D - D by omega)
            have beq : (D + (j : Int) != t.D) = false := by simp; omega
            have hA2 : Blk wr (w.heap.size + 1 + 1) 52 #[.int .i64 t.D, .int .i64 t.M, .int .i64 t.L, .int .i64 f.W, .int .i64 f.O] := by rw [hje] at hAr; exact hAr
            have hj2 : (0 : Int) ≤ (j : Int) := by omega
            clear hj hlt hje
            go_wp2_with fail
            go_loopw [12] (fun i wr => ∃ i3 : Nat, (i3 : Int) ≤ f.farW t ∧ i = .int .i64 i3 ∧ Blk wr (w.heap.size + 1 + 1) 52 #[.int .i64 t.D, .int .i64 t.M, .int .i64 t.L, .int .i64 ((f.W + (i3 : Int)) % 7), .int .i64 f.O] ∧ Blk wr (w.heap.size + 1) 52 t.cells ∧ Below w.heap.size w wr) (fun i _ => (f.farW t - intOf i).toNat)
            case atStart => exact ⟨0, hwb1, rfl, (by have e : (f.W + ((0 : Nat) : Int)) % 7 = f.W := (by omega); rw [e]; exact hA2), hBr, hbr⟩
            case round =>
              clear hAr hBr hbr cA fA cB lB
              obtain ⟨i3, hj, rfl, hAr, hBr, hbr⟩ := hrel
              have cA := hAr.cell
              have fA := hAr.frozen
              have cB := hBr.cell
              have lB := hAr.lt
              by_cases hlt : (i3 : Int) < f.farW t
              · have bne : ((f.W + (i3 : Int)) % 7 != t.W) = true := by simpa using farW_lt ⟨f7, f8, t7, t8⟩ hlt
                have hm := fun w => Lib.hid (rwday_step t HT.out ((f.W + (i3 : Int)) % 7) f.O (by omega) ⟨f9, f10⟩ w)
                have HM := Lib.hid hm
                clear hm
                go_wp2_with fail
                refine (HM.out _).out.mono ?_; rintro e w3 ⟨rfl, hb3⟩
                have hA3 := hAr.later hb3
                have hB3 := hBr.later hb3
                have hbr3 := hbr.trans (hb3.mono (by omega))
                have c3 := hA3.cell
                have f3 := hA3.frozen
                have l3 := hA3.lt
                clear cA fA cB
                go_wp2_with fail
                go_roundw
                case rel =>
                  refine ⟨i3 + 1, by omega, by go_num, ?_, ?_, ?_⟩
                  · have q := ((((((hA3.set_ 0 (.int .i64 t.D)).set_ 1 (.int .i64 t.M)).set_ 2 (.int .i64 t.L)).set_ 3 (.int .i64 ((f.W + (i3 : Int) + 1) % 7))).set_ 4 (.int .i64 f.O)))
                    rw [show (f.W + ((i3 + 1 : Nat) : Int)) % 7 = (f.W + (i3 : Int) + 1) % 7 by omega]
                    exact q
                  · exact ((((hB3.far (by simp) _).far (by simp) _).far (by simp) _).far (by simp) _).far (by simp) _
                  · exact ((((hbr3.setCell (by simp; omega) _).setCell (by simp; omega) _).setCell (by simp; omega) _).setCell (by simp; omega) _).setCell (by simp; omega) _
                case measure => simp [intOf]; omega
              · have HJ3 := Lib.hid (show (i3 : Int) = f.farW t by omega)
                have hje : (f.W + (i3 : Int)) % 7 = t.W := farW_eq ⟨f7, f8, t7, t8⟩ HJ3.out
                have beq : ((f.W + (i3 : Int)) % 7 != t.W) = false := by simp [hje]
                have hA4 : Blk wr (w.heap.size + 1 + 1) 52 #[.int .i64 t.D, .int .i64 t.M, .int .i64 t.L, .int .i64 t.W, .int .i64 f.O] := by rw [hje] at hAr; exact hAr
                clear hj hlt hje
                go_wp2_with fail
                go_loopw [13] (fun i wr => ∃ i4 : Nat, (i4 : Int) ≤ f.farO t ∧ i = .int .i64 i4 ∧ Blk wr (w.heap.size + 1 + 1) 52 #[.int .i64 t.D, .int .i64 t.M, .int .i64 t.L, .int .i64 t.W, .int .i64 ((f.O + (i4 : Int)) % 59)] ∧ Blk wr (w.heap.size + 1) 52 t.cells ∧ Below w.heap.size w wr) (fun i _ => (f.farO t - intOf i).toNat)
                case atStart => exact ⟨0, hob1, rfl, (by have e : (f.O + ((0 : Nat) : Int)) % 59 = f.O := (by omega); rw [e]; exact hA4), hBr, hbr⟩
                case round =>
                  clear hAr hBr hbr cA fA cB lB
                  obtain ⟨i4, hj, rfl, hAr, hBr, hbr⟩ := hrel
                  have cA := hAr.cell
                  have fA := hAr.frozen
                  have cB := hBr.cell
                  have lB := hAr.lt
                  by_cases hlt : (i4 : Int) < f.farO t
                  · have bne : ((f.O + (i4 : Int)) % 59 != t.O) = true := by simpa using farO_lt ⟨f9, f10, t9, t10⟩ hlt
                    have hm := fun w => Lib.hid (rmoon_step t HT.out ((f.O + (i4 : Int)) % 59) (by omega) w)
                    have HM := Lib.hid hm
                    clear hm
                    go_wp2_with fail
                    refine (HM.out _).out.mono ?_; rintro e w3 ⟨rfl, hb3⟩
                    have hA3 := hAr.later hb3
                    have hB3 := hBr.later hb3
                    have hbr3 := hbr.trans (hb3.mono (by omega))
                    have c3 := hA3.cell
                    have f3 := hA3.frozen
                    have l3 := hA3.lt
                    clear cA fA cB
                    go_wp2_with fail
                    go_roundw
                    case rel =>
                      refine ⟨i4 + 1, by omega, by go_num, ?_, ?_, ?_⟩
                      · have q := ((((((hA3.set_ 0 (.int .i64 t.D)).set_ 1 (.int .i64 t.M)).set_ 2 (.int .i64 t.L)).set_ 3 (.int .i64 t.W)).set_ 4 (.int .i64 ((f.O + (i4 : Int) + 1) % 59))))
                        rw [show (f.O + ((i4 + 1 : Nat) : Int)) % 59 = (f.O + (i4 : Int) + 1) % 59 by omega]
                        exact q
                      · exact ((((hB3.far (by simp) _).far (by simp) _).far (by simp) _).far (by simp) _).far (by simp) _
                      · exact ((((hbr3.setCell (by simp; omega) _).setCell (by simp; omega) _).setCell (by simp; omega) _).setCell (by simp; omega) _).setCell (by simp; omega) _
                    case measure => simp [intOf]; omega
                  · have HJ4 := Lib.hid (show (i4 : Int) = f.farO t by omega)
                    have hje : (f.O + (i4 : Int)) % 59 = t.O := farO_eq ⟨f9, f10, t9, t10⟩ HJ4.out
                    have beq : ((f.O + (i4 : Int)) % 59 != t.O) = false := by simp [hje]
                    clear hj hlt hje
                    go_wp2_with fail
                    refine bodyPost_ret (results_tmp5' rfl _ _ _) rfl ⟨?_, hbr⟩
                    rw [HV.out, ← HJ.out, ← HKF.out, ← HJ3.out, ← HJ4.out]
                    rfl
      · have HV := Lib.hid (show rPushV f t = .tuple #[.int .i64 0, .int .i64 0, .int .i64 0, .int .i64 0, .bool false] by unfold rPushV; rw [HK.out]; exact if_neg hD)
        go_wp2_with fail
        refine bodyPost_ret (results_tmp5' rfl _ _ _) rfl ⟨?_, hbr⟩
        rw [HV.out]
        rfl
    · have hkl : (k : Int) < f.far t := by
        rcases Int.lt_or_le (k : Int) (f.far t) with hl | hl
        · exact hl
        · exfalso
          have ek : Fc.pushMs k f = f.reached t := by unfold Fc.reached; congr 1; omega
          exact hM (by rw [ek]; exact Fc.reached_ML HH.out HT.out)
      have hm := fun w => Lib.hid (rCorrect_month (Fc.pushMs k f) w (hall.out k))
      have HM := Lib.hid hm
      clear hm
      have hcase : ((Fc.pushMs k f).M != t.M) = true ∨ ((Fc.pushMs k f).M != t.M) = false ∧ ((Fc.pushMs k f).L != t.L) = true := by
        by_cases hm : (Fc.pushMs k f).M = t.M
        · right; exact ⟨by simp [hm], by simpa using fun e => hM ⟨hm, e⟩⟩
        · left; simpa using hm
      clear hM
      rcases hcase with b1 | ⟨b1, b2⟩
      all_goals
        go_wp2_with fail
        refine (HM.out _).out.mono ?_; rintro e w3 ⟨rfl, hb3⟩
        have hA3 := hAr.later hb3
        have hB3 := hBr.later hb3
        have hbr3 := hbr.trans (hb3.mono (by omega))
        have c3 := hA3.cell
        have f3 := hA3.frozen
        have l3 := hA3.lt
        clear cA fA cB
        go_wp2_with fail
        go_roundw
        case rel =>
          refine ⟨k + 1, by omega, by go_num, ?_, ?_, ?_⟩
          · exact ((((hA3.set_ 0 _).set_ 1 _).set_ 2 _).set_ 3 _).set_ 4 _
          · exact ((((hB3.far (by simp) _).far (by simp) _).far (by simp) _).far (by simp) _).far (by simp) _
          · exact ((((hbr3.setCell (by simp; omega) _).setCell (by simp; omega) _).setCell (by simp; omega) _).setCell (by simp; omega) _).setCell (by simp; omega) _
        case measure => simp [intOf]; omega
end Go.Proofs.Ytjlnkghjiaglmaa
