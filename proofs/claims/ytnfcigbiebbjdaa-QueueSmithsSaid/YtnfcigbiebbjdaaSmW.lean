/-
  The walk of the law on Smith's and Lawler's orders.
  No conditions.
-/
import Derived.Test.YtnfcigbiebbjdaaRLawler
import Derived.Test.YtnfcigbiebbjdaaCheckN
namespace Go.Proofs.Ytnfcigbiebbjdaa
open Go.RowKit

theorem leOf_anti {cf : Int → Int → Int} (x y : Int) (h1 : leOf cf x y) (h2 : leOf cf y x) : x = y := by
  have a := h1.2.resolve_left h2.1
  have b := h2.2.resolve_left h1.1
  omega
theorem few_len (x : List Jb) (n q : Nat) (hq : q ≤ 64) : ((x.take (fewN n q)).map cutJ).length ≤ 65 := by
  rw [List.length_map, List.length_take]
  unfold fewN
  split <;> omega
theorem eqb_self (x : Int) : (x == x) = true := by simp

set_option maxRecDepth 100000 in
set_option maxHeartbeats 8000000 in
theorem walkSm (A : Option Addr) (n c : Nat) (x : List Jb) (w : World) (rA : JobsA w A n x) (hc : n ≤ c) (hnil : A = none → c = 0) :
    Calls Try.prog 5 #[.slice A n c] w fun e w' => e = .returned (.bool true) ∧ Below w.heap.size w w' := by
  go_enter Try.func5, Try.ntmps5
  go_wp2_with fail
  refine (few_any A n c 64 x w rA hc hnil (by omega)).mono ?_
  rintro e1 w1 ⟨A1, c1, rfl, hJ, hb1⟩
  have hm : ∀ (k : Nat) (j : Jb), ((x.take (fewN n 64)).map cutJ)[k]? = some j → j.after.length ≤ 1000 := fun k j h => cut_after h
  have hfl := few_len x n 64 (Nat.le_refl _)
  clear rA hnil
  generalize (x.take (fewN n 64)).map cutJ = js at *
  generalize hN : js.length = N at *
  have HM := Lib.hid hm
  clear hm
  by_cases hv : validB js = true
  case neg =>
    rw [Bool.not_eq_true] at hv
    have HV := Lib.hid hv
    have S1 := Lib.hid (Smith_no A1 N c1 js w1 hJ HM.out (by omega) hv)
    clear hv
    go_wp2_with fail
    refine S1.out.mono ?_
    rintro e2 w2 ⟨rfl, hb2⟩
    have hJ2 := hJ.later hb2
    have hw2 := hb1.trans (hb2.mono hb1.size)
    have L1 := Lib.hid (Lawler_no A1 N c1 js w2 hJ2 HM.out (by omega) HV.out)
    clear S1 hJ hb1 hb2
    go_wp2_with fail
    refine L1.out.mono ?_
    rintro e3 w3 ⟨rfl, hb3⟩
    have hJ3 := hJ2.later hb3
    have hw3 := hw2.trans (hb3.mono hw2.size)
    have V1 := Lib.hid (Valid_any A1 N c1 js w3 hJ3 HM.out)
    rw [HV.out] at V1
    clear L1 hJ2 hw2 hb3
    go_wp2_with fail
    refine V1.out.mono ?_
    rintro e4 w4 ⟨rfl, hb4⟩
    have hw4 := hw3.trans (hb4.mono hw3.size)
    clear V1 hJ3 hw3 hb4
    go_wp2_with fail
    refine (lives_any _).mono ?_
    rintro e5 w5 ⟨rfl, hb5⟩
    have hfin := hw4.trans (hb5.mono hw4.size)
    go_wp2_with fail
    go_ret
    exact ⟨rfl, hfin⟩
  case pos =>
    have HV := Lib.hid hv
    have HT : Hid (∀ (k : Nat) (x : Jb), js[k]? = some x → Tame x) := fun k x h => validB_tame hv h
    have HC : Hid (∀ (k : Nat) (x : Jb), js[k]? = some x → Calm x) := fun k x h => validB_calm hv h
    have hN64 : N ≤ 64 := by
      have h := hv
      unfold validB at h
      simp only [Bool.and_eq_true, decide_eq_true_eq] at h
      rw [← hN]; exact h.1
    have S1 := Lib.hid (Smith_yes A1 N c1 js w1 hJ hv)
    clear hv hN
    go_wp2_with fail
    refine S1.out.mono ?_
    rintro e2 w2 ⟨R, o, rfl, hP, hS, hR, hb2⟩
    have HP := Lib.hid hP
    have HS := Lib.hid hS
    obtain ⟨n1, hn1⟩ : ∃ n1, n1 = wsum js 0 o := ⟨_, rfl⟩
    rw [← hn1]
    have HN1 := Lib.hid hn1
    have hJ2 := hJ.later hb2
    have hw2 := hb1.trans (hb2.mono hb1.size)
    have L1 := Lib.hid (Lawler_yes A1 N c1 js w2 hJ2 HV.out)
    clear S1 hP hS hn1 hJ hb1 hb2
    go_wp2_with fail
    refine L1.out.mono ?_
    rintro e3 w3 ⟨R2, o2, rfl, hG, hol, hR2, hb3⟩
    have HG := Lib.hid hG
    have HL := Lib.hid hol
    obtain ⟨n2, hn2⟩ : ∃ n2, n2 = lateF js 0 o2 := ⟨_, rfl⟩
    rw [← hn2]
    have HN2 := Lib.hid hn2
    have hJ3 := hJ2.later hb3
    have hRa := hR.later hb3
    have hw3 := hw2.trans (hb3.mono hw2.size)
    have V1 := Lib.hid (Valid_any A1 N c1 js w3 hJ3 HM.out)
    rw [HV.out] at V1
    clear L1 hG hol hn2 hJ2 hR hw2 hb3
    go_wp2_with fail
    refine V1.out.mono ?_
    rintro e4 w4 ⟨rfl, hb4⟩
    have hJ4 := hJ3.later hb4
    have hRb := hRa.later hb4
    have hR2b := hR2.later hb4
    have hw4 := hw3.trans (hb4.mono hw3.size)
    have T1 := Lib.hid (rSmith_yes A1 N c1 js w4 hJ4 HV.out)
    clear V1 hJ3 hRa hR2 hw3 hb4
    go_wp2_with fail
    refine T1.out.mono ?_
    rintro e5 w5 ⟨v, rfl, g5, cap5, p, rfl, hkc, hP5, hS5, hown5, hb5⟩
    obtain rfl : o = p := sorted_uniq leOf_anti (HP.out.trans hP5.symm) HS.out hS5
    have hJ5 := hJ4.later hb5
    have hRc := hRb.later hb5
    have hR2c := hR2b.later hb5
    have hp5 := own_rowH hown5
    have hw5 := hw4.trans (hb5.mono hw4.size)
    have T2 := Lib.hid (rLawler_yes A1 N c1 js w5 hJ5 HV.out)
    clear T1 hJ4 hRb hR2b hw4 hb5 hP5 hS5 hown5
    go_wp2_with fail
    refine T2.out.mono ?_
    rintro e6 w6 ⟨v, q, rfl, hG6, hl6, ⟨g6, cap6, rfl, hown6⟩, hb6⟩
    obtain rfl : o2 = q := GoodL.uniq js HG.out hG6 (HL.out.trans hl6.symm)
    have hJ6 := hJ5.later hb6
    have hRd := hRc.later hb6
    have hR2d := hR2c.later hb6
    have hp6 := hp5.later hb6
    have hq6 := own_rowH hown6
    have hw6 := hw5.trans (hb6.mono hw5.size)
    rw [HL.out] at hq6 ⊢
    have X1 := Lib.hid (same_true (some ⟨R, 0, none⟩) (some ⟨g5, 0, none⟩) N N cap5 o w6 hRd hp6 (by omega))
    clear T2 hJ5 hRc hR2c hw5 hb6 hG6 hl6 hown6 hp5 hRd
    go_wp2_with fail
    refine X1.out.mono ?_
    rintro e7 w7 ⟨rfl, hb7⟩
    have hJ7 := hJ6.later hb7
    have hR2e := hR2d.later hb7
    have hp7 := hp6.later hb7
    have hq7 := hq6.later hb7
    have hw7 := hw6.trans (hb7.mono hw6.size)
    have W1 := Lib.hid (rWeighted_any A1 (some ⟨g5, 0, none⟩) N c1 N cap5 js o w7 hJ7 hp7 HT.out (fun q hq => mem_nums.1 (HP.out.mem_iff.1 hq)) hN64)
    rw [← HN1.out] at W1
    have b1 := eqb_self n1
    clear X1 hJ6 hR2d hp6 hq6 hw6 hb7
    go_wp2_with fail
    refine W1.out.mono ?_
    rintro e8 w' ⟨rfl, rfl⟩
    have X2 := Lib.hid (same_true (some ⟨R2, 0, none⟩) (some ⟨g6, 0, none⟩) N N cap6 o2 w7 hR2e hq7 (by omega))
    go_wp2_with fail
    refine X2.out.mono ?_
    rintro e9 w9 ⟨rfl, hb9⟩
    have hJ9 := hJ7.later hb9
    have hq9 := hq7.later hb9
    have hw9 := hw7.trans (hb9.mono hw7.size)
    have M1 := Lib.hid (rLate_any A1 (some ⟨g6, 0, none⟩) N c1 N cap6 js o2 w9 hJ9 hq9 HC.out (HG.out.sub js).2 hN64)
    rw [← HN2.out] at M1
    have b2 := eqb_self n2
    clear W1 X2 hJ7 hR2e hp7 hq7 hw7 hb9
    go_wp2_with fail
    refine M1.out.mono ?_
    rintro e10 w10 ⟨rfl, hb10⟩
    have hw10 := hw9.trans (hb10.mono hw9.size)
    clear M1 hJ9 hq9 hw9 hb10
    go_wp2_with fail
    refine (lives_any _).mono ?_
    rintro e11 w11 ⟨rfl, hb11⟩
    have hfin := hw10.trans (hb11.mono hw10.size)
    go_wp2_with fail
    go_ret
    exact ⟨rfl, hfin⟩
end Go.Proofs.Ytnfcigbiebbjdaa
