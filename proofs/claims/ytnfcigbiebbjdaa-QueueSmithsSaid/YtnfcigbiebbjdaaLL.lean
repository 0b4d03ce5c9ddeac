/-
  The walk of the law on Lawler's order.
  No conditions.
-/
import Derived.Test.YtnfcigbiebbjdaaSL
import Derived.Test.YtnfcigbiebbjdaaKeeps
namespace Go.Proofs.Ytnfcigbiebbjdaa
open Go.RowKit

theorem lawl_min {l : List Jb} {n : Nat} {o m : List Int} (hv : validB l = true) (hG : GoodL l n o) (hn : o.length = n) (hm : m.Perm (nums n)) (hk : Kept l m) : lateF l 0 o ≤ lateF l 0 m :=
  Good.least l (validB_fair hv) (fun i h => by have := (validB_up hv i i h).2; omega) (hG.good l) hn hm hk

set_option maxRecDepth 100000 in
set_option maxHeartbeats 8000000 in
theorem walkLL (A C : Option Addr) (n c p e : Nat) (x : List Jb) (z : List Int) (w : World) (rA : JobsA w A n x) (hc : n ≤ c) (hnil : A = none → c = 0) (rC : RowI w C p z) :
    Calls Try.prog 6 #[.slice A n c, .slice C p e] w fun e w' => e = .returned (.bool true) ∧ Below w.heap.size w w' := by
  go_enter Try.func6, Try.ntmps6
  go_wp2_with fail
  refine (few_any A n c 24 x w rA hc hnil (by omega)).mono ?_
  rintro e1 w1 ⟨A1, c1, rfl, hJ, hb1⟩
  have hm : ∀ (k : Nat) (j : Jb), ((x.take (fewN n 24)).map cutJ)[k]? = some j → j.after.length ≤ 1000 := fun k j h => cut_after h
  have rC1 := rC.later hb1
  clear rA hnil rC
  generalize (x.take (fewN n 24)).map cutJ = js at *
  generalize hN : js.length = N at *
  have V1 := Lib.hid (Valid_any A1 N c1 js w1 hJ hm)
  clear hm
  by_cases hv : validB js = true
  case neg =>
    rw [Bool.not_eq_true] at hv
    rw [hv] at V1
    go_wp2_with fail
    refine V1.out.mono ?_
    rintro e2 w2 ⟨rfl, hb2⟩
    go_wp2_with fail
    refine (lives_any _).mono ?_
    rintro e3 w3 ⟨rfl, hb3⟩
    have hfin := (hb1.trans (hb2.mono hb1.size)).trans (hb3.mono (Nat.le_trans hb1.size hb2.size))
    go_wp2_with fail
    go_ret
    exact ⟨rfl, hfin⟩
  case pos =>
    have HV := Lib.hid hv
    have HC : Hid (∀ (k : Nat) (x : Jb), js[k]? = some x → Calm x) := fun k x h => validB_calm hv h
    have hN64 : N ≤ 64 := by
      have h := hv
      unfold validB at h
      simp only [Bool.and_eq_true, decide_eq_true_eq] at h
      rw [← hN]; exact h.1
    rw [hv] at V1
    clear hv hN
    go_wp2_with fail
    refine V1.out.mono ?_
    rintro e2 w2 ⟨rfl, hb2⟩
    have hJ2 := hJ.later hb2
    have rC2 := rC1.later hb2
    have hw2 := hb1.trans (hb2.mono hb1.size)
    have S1 := Lib.hid (Lawler_yes A1 N c1 js w2 hJ2 HV.out)
    clear V1 hJ rC1 hb1 hb2
    go_wp2_with fail
    refine S1.out.mono ?_
    rintro e3 w3 ⟨R, o, rfl, hG, hol, hR, hb3⟩
    have HG := Lib.hid hG
    have HL := Lib.hid hol
    have HOr := Lib.hid ((hG.good js).ord js hol)
    have HP : Hid (o.Perm (nums N)) := HOr.out.perm
    have HKp : Hid (Kept js o) := (hG.good js).kept js hol
    obtain ⟨n1, hn1⟩ : ∃ n1, n1 = lateF js 0 o := ⟨_, rfl⟩
    rw [← hn1]
    have HN1 := Lib.hid hn1
    have hin : ∀ q ∈ o, 0 ≤ q ∧ q < (N : Int) := fun q hq => mem_nums.1 (HP.out.mem_iff.1 hq)
    have HIn := Lib.hid hin
    have hJ3 := hJ2.later hb3
    have rC3 := rC2.later hb3
    have hw3 := hw2.trans (hb3.mono hw2.size)
    have O1 := Lib.hid (Order_yes (some ⟨R, 0, none⟩) N N o w3 hR HOr.out (by omega))
    clear S1 hG hol hn1 hin hJ2 rC2 hw2 hb3
    have t1 : ((n1 : Int) != n1) = false := by simp
    go_wp2_with fail
    refine O1.out.mono ?_
    rintro e4 w4 ⟨rfl, hb4⟩
    have hR4 := hR.later hb4
    have hJ4 := hJ3.later hb4
    have rC4 := rC3.later hb4
    have hw4 := hw3.trans (hb4.mono hw3.size)
    have K1 := Lib.hid (Keeps_any A1 (some ⟨R, 0, none⟩) N c1 N js o w4 hJ4 hR4 HV.out HOr.out)
    clear O1 hR hJ3 rC3 hw3 hb4
    go_wp2_with fail
    refine K1.out.mono ?_
    rintro e5 w5 ⟨v, rfl, hvk, hb5⟩
    obtain rfl : v = true := hvk.2 HKp.out
    have hR5 := hR4.later hb5
    have hJ5 := hJ4.later hb5
    have rC5 := rC4.later hb5
    have hw5 := hw4.trans (hb5.mono hw4.size)
    have L1 := Lib.hid (rLate_any A1 (some ⟨R, 0, none⟩) N c1 N N js o w5 hJ5 hR5 HC.out HIn.out (by omega))
    rw [← HN1.out] at L1
    clear K1 hvk hR4 hJ4 rC4 hw4 hb5
    go_wp2_with fail
    refine L1.out.mono ?_
    rintro e6 w6 ⟨rfl, hb6⟩
    have hR6 := hR5.later hb6
    have hJ6 := hJ5.later hb6
    have rC6 := rC5.later hb6
    have hw6 := hw5.trans (hb6.mono hw5.size)
    clear L1 hR5 hJ5 rC5 hw5 hb6
    go_wp2_with fail
    refine (lives_any _).mono ?_
    rintro e7 w7 ⟨rfl, hb7⟩
    have hR7 := hR6.later hb7
    have hJ7 := hJ6.later hb7
    have rC7 := rC6.later hb7
    have hw7 := hw6.trans (hb7.mono hw6.size)
    have X1 := Lib.hid (mixed_any (some ⟨R, 0, none⟩) C N N p e o z w7 hR7 rC7 (by omega))
    clear hR6 hJ6 rC6 hw6 hb7
    go_wp2_with fail
    refine X1.out.mono ?_
    rintro e8 w8 ⟨D, cd, o2, rfl, hP2, hR2, hb8⟩
    have hJ8 := hJ7.later hb8
    have hw8 := hw7.trans (hb8.mono hw7.size)
    have HP2 := Lib.hid (hP2.trans HP.out)
    have K2 := Lib.hid (Keeps_any A1 D N c1 cd js o2 w8 hJ8 hR2 HV.out (isOrd_of_perm HP2.out))
    clear X1 hR7 hJ7 rC7 hw7 hb8 hP2
    go_wp2_with fail
    refine K2.out.mono ?_
    rintro e9 w9 ⟨v, rfl, hvk, hb9⟩
    have HVK := Lib.hid hvk
    have hR9 := hR2.later hb9
    have hJ9 := hJ8.later hb9
    have hw9 := hw8.trans (hb9.mono hw8.size)
    clear K2 hvk hR2 hJ8 hw8 hb9
    cases v with
    | false =>
      clear HVK
      by_cases h5 : 5 < N
      · have d5 : decide ((N : Int) > 5) = true := by simp; omega
        have d5i : (5 : Int) < (N : Int) := by omega
        go_wp2_with fail
        go_ret
        exact ⟨rfl, hw9⟩
      · have d5 : decide ((N : Int) > 5) = false := by simp; omega
        have d5i : ¬ (5 : Int) < (N : Int) := by omega
        go_wp2_with fail
        refine (Orders_any N _ (by omega)).mono ?_
        rintro e10 w11 ⟨v, NN, rfl, hNN, vs, LL, hvs, hown, hrows, hord, hb11⟩
        have HOd := Lib.hid hord
        obtain ⟨G, cG, rfl⟩ := own_slice hown
        have hJ11 := hJ9.later hb11
        have hw11 := hw9.trans (hb11.mono hw9.size)
        clear hord hb11 hJ9 hw9
        go_wp2_with fail
        go_loopw [11] (fun i wr => ∃ q : Nat, q ≤ NN ∧ i = .int .i64 q ∧ Below w11.heap.size w11 wr) (fun i _ => NN - (intOf i).toNat)
        case atStart => exact ⟨0, Nat.zero_le _, rfl, Below.refl _ _⟩
        case round =>
          obtain ⟨q, hq, rfl, hbr⟩ := hrel
          have hwr := hw11.trans (hbr.mono hw11.size)
          by_cases hqN : q < NN
          · have hbq : decide ((q : Int) < (NN : Int)) = true := by simp; omega
            have hbq2 : (q : Int) < (NN : Int) := by omega
            obtain ⟨l, hl⟩ : ∃ l, LL[q]? = some l := ⟨_, List.getElem?_eq_getElem (by rw [← hrows.1, hvs]; exact hqN)⟩
            obtain ⟨v, hv, hir⟩ := (hrows.later hbr).2 q l hl
            obtain ⟨B2, c2, rfl, hlc, hBr⟩ := hir.row
            have hlp := HOd.out l (List.mem_of_getElem? hl)
            have HLp := Lib.hid hlp
            have hownr := own_later hown hbr
            obtain ⟨g2, cap2, e1, hg1, hg2⟩ := hownr.form (by omega)
            cases e1
            have hcell := hownr.cellAt q (by omega)
            rw [hv] at hcell
            have hll : l.length = N := by rw [hlp.length_eq, nums_length]
            rw [hll] at hBr hcell
            have K4 := Lib.hid (Keeps_any A1 (some ⟨B2, 0, none⟩) N c1 c2 js l wr (hJ11.later hbr) hBr HV.out (isOrd_of_perm hlp))
            clear hv hir hlp hl hll hlc hownr
            go_wp2_with fail
            refine K4.out.mono ?_
            rintro e12 w12 ⟨v, rfl, hvk, hb12⟩
            have HVK := Lib.hid hvk
            have hb13 := hbr.trans (hb12.mono hbr.size)
            clear K4 hvk
            cases v with
            | false =>
              clear hcell hBr
              go_wp2_with fail
              go_roundw
              case rel => exact ⟨q + 1, by omega, by go_num, hb13⟩
              case measure => simp [intOf]; omega
            | true =>
              have hcell2 := (hb12.cell (p := ⟨g2, q, none⟩) hg2).trans hcell
              have hg3 : g2 < w12.heap.size := Nat.lt_of_lt_of_le hg2 hb12.size
              have L4 := Lib.hid (rLate_any A1 (some ⟨B2, 0, none⟩) N c1 N c2 js l w12 (hJ11.later hb13) (hBr.later hb12) HC.out (fun q hq => mem_nums.1 (HLp.out.mem_iff.1 hq)) (by omega))
              have hle := lawl_min HV.out HG.out HL.out HLp.out (HVK.out.1 rfl)
              rw [← HN1.out] at hle
              generalize lateF js 0 l = n3 at *
              have t3 : decide (n3 < n1) = false := by simp; omega
              have t3i : ¬ n3 < n1 := by omega
              clear hle hBr hcell
              go_wp2_with fail
              refine L4.out.mono ?_
              rintro e13 w13 ⟨rfl, hb14⟩
              have hb15 := hb13.trans (hb14.mono hb13.size)
              clear hcell2 L4
              go_wp2_with fail
              go_roundw
              case rel => exact ⟨q + 1, by omega, by go_num, hb15⟩
              case measure => simp [intOf]; omega
          · obtain rfl : q = NN := by omega
            have hbq : decide ((q : Int) < (q : Int)) = false := by simp
            go_wp2_with fail
            go_ret
            exact ⟨rfl, hwr⟩
    | true =>
      have L2 := Lib.hid (rLate_any A1 D N c1 N cd js o2 w9 hJ9 hR9 HC.out (fun q hq => mem_nums.1 (HP2.out.mem_iff.1 hq)) (by omega))
      have hle := lawl_min HV.out HG.out HL.out HP2.out (HVK.out.1 rfl)
      rw [← HN1.out] at hle
      generalize lateF js 0 o2 = n2 at *
      have t2 : decide (n2 < n1) = false := by simp; omega
      have t2i : ¬ n2 < n1 := by omega
      clear hle HVK
      go_wp2_with fail
      refine L2.out.mono ?_
      rintro e10 w10 ⟨rfl, hb10⟩
      have hJ10 := hJ9.later hb10
      have hw10 := hw9.trans (hb10.mono hw9.size)
      clear L2 hR9 hJ9 hw9 hb10
      by_cases h5 : 5 < N
      · have d5 : decide ((N : Int) > 5) = true := by simp; omega
        have d5i : (5 : Int) < (N : Int) := by omega
        go_wp2_with fail
        go_ret
        exact ⟨rfl, hw10⟩
      · have d5 : decide ((N : Int) > 5) = false := by simp; omega
        have d5i : ¬ (5 : Int) < (N : Int) := by omega
        go_wp2_with fail
        refine (Orders_any N _ (by omega)).mono ?_
        rintro e10 w11 ⟨v, NN, rfl, hNN, vs, LL, hvs, hown, hrows, hord, hb11⟩
        have HOd := Lib.hid hord
        obtain ⟨G, cG, rfl⟩ := own_slice hown
        have hJ11 := hJ10.later hb11
        have hw11 := hw10.trans (hb11.mono hw10.size)
        clear hord hb11 hJ10 hw10
        go_wp2_with fail
        go_loopw [11] (fun i wr => ∃ q : Nat, q ≤ NN ∧ i = .int .i64 q ∧ Below w11.heap.size w11 wr) (fun i _ => NN - (intOf i).toNat)
        case atStart => exact ⟨0, Nat.zero_le _, rfl, Below.refl _ _⟩
        case round =>
          obtain ⟨q, hq, rfl, hbr⟩ := hrel
          have hwr := hw11.trans (hbr.mono hw11.size)
          by_cases hqN : q < NN
          · have hbq : decide ((q : Int) < (NN : Int)) = true := by simp; omega
            have hbq2 : (q : Int) < (NN : Int) := by omega
            obtain ⟨l, hl⟩ : ∃ l, LL[q]? = some l := ⟨_, List.getElem?_eq_getElem (by rw [← hrows.1, hvs]; exact hqN)⟩
            obtain ⟨v, hv, hir⟩ := (hrows.later hbr).2 q l hl
            obtain ⟨B2, c2, rfl, hlc, hBr⟩ := hir.row
            have hlp := HOd.out l (List.mem_of_getElem? hl)
            have HLp := Lib.hid hlp
            have hownr := own_later hown hbr
            obtain ⟨g2, cap2, e1, hg1, hg2⟩ := hownr.form (by omega)
            cases e1
            have hcell := hownr.cellAt q (by omega)
            rw [hv] at hcell
            have hll : l.length = N := by rw [hlp.length_eq, nums_length]
            rw [hll] at hBr hcell
            have K4 := Lib.hid (Keeps_any A1 (some ⟨B2, 0, none⟩) N c1 c2 js l wr (hJ11.later hbr) hBr HV.out (isOrd_of_perm hlp))
            clear hv hir hlp hl hll hlc hownr
            go_wp2_with fail
            refine K4.out.mono ?_
            rintro e12 w12 ⟨v, rfl, hvk, hb12⟩
            have HVK := Lib.hid hvk
            have hb13 := hbr.trans (hb12.mono hbr.size)
            clear K4 hvk
            cases v with
            | false =>
              clear hcell hBr
              go_wp2_with fail
              go_roundw
              case rel => exact ⟨q + 1, by omega, by go_num, hb13⟩
              case measure => simp [intOf]; omega
            | true =>
              have hcell2 := (hb12.cell (p := ⟨g2, q, none⟩) hg2).trans hcell
              have hg3 : g2 < w12.heap.size := Nat.lt_of_lt_of_le hg2 hb12.size
              have L4 := Lib.hid (rLate_any A1 (some ⟨B2, 0, none⟩) N c1 N c2 js l w12 (hJ11.later hb13) (hBr.later hb12) HC.out (fun q hq => mem_nums.1 (HLp.out.mem_iff.1 hq)) (by omega))
              have hle := lawl_min HV.out HG.out HL.out HLp.out (HVK.out.1 rfl)
              rw [← HN1.out] at hle
              generalize lateF js 0 l = n3 at *
              have t3 : decide (n3 < n1) = false := by simp; omega
              have t3i : ¬ n3 < n1 := by omega
              clear hle hBr hcell
              go_wp2_with fail
              refine L4.out.mono ?_
              rintro e13 w13 ⟨rfl, hb14⟩
              have hb15 := hb13.trans (hb14.mono hb13.size)
              clear hcell2 L4
              go_wp2_with fail
              go_roundw
              case rel => exact ⟨q + 1, by omega, by go_num, hb15⟩
              case measure => simp [intOf]; omega
          · obtain rfl : q = NN := by omega
            have hbq : decide ((q : Int) < (q : Int)) = false := by simp
            go_wp2_with fail
            go_ret
            exact ⟨rfl, hwr⟩
end Go.Proofs.Ytnfcigbiebbjdaa
