/-
  The walk of the law on OnTime's number.
  No conditions.
-/
import Derived.Test.YtnfcigbiebbjdaaSetM
namespace Go.Proofs.Ytnfcigbiebbjdaa
open Go.RowKit

theorem eqb_self5 (x : Int) : (x == x) = true := by simp

set_option maxRecDepth 100000 in
set_option maxHeartbeats 8000000 in
theorem walkOs (A : Option Addr) (n c : Nat) (x : List Jb) (w : World) (rA : JobsA w A n x) (hc : n ≤ c) (hnil : A = none → c = 0) :
    Calls Try.prog 12 #[.slice A n c] w fun e w' => e = .returned (.bool true) ∧ Below w.heap.size w w' := by
  have hxl : x.length = n := rA.1
  go_enter Try.func12, Try.ntmps12
  go_wp2_with fail
  refine (few_any A n c 9 x w rA hc hnil (by omega)).mono ?_
  rintro e1 w1 ⟨A1, c1, rfl, hJ, hb1⟩
  have hm : ∀ (k : Nat) (j : Jb), ((x.take (fewN n 9)).map cutJ)[k]? = some j → j.after.length ≤ 1000 := fun k j h => cut_after h
  have hfl := few_len3 x n 9 (by omega)
  have h9 : ((x.take (fewN n 9)).map cutJ).length ≤ 64 → ((x.take (fewN n 9)).map cutJ).length ≤ 9 := by
    rw [List.length_map, List.length_take, hxl]
    unfold fewN
    split <;> omega
  clear rA hnil hxl
  generalize (x.take (fewN n 9)).map cutJ = js at *
  generalize hN : js.length = N at *
  have HM := Lib.hid hm
  clear hm
  by_cases hv : validB js = true
  case neg =>
    rw [Bool.not_eq_true] at hv
    have HV := Lib.hid hv
    have S1 := Lib.hid (OnTime_no A1 N c1 js w1 hJ HM.out (by omega) hv)
    clear hv
    go_wp2_with fail
    refine S1.out.mono ?_
    rintro e2 w2 ⟨rfl, hb2⟩
    have hJ2 := hJ.later hb2
    have hw2 := hb1.trans (hb2.mono hb1.size)
    have V1 := Lib.hid (Valid_any A1 N c1 js w2 hJ2 HM.out)
    rw [HV.out] at V1
    clear S1 hJ hb1 hb2
    go_wp2_with fail
    refine V1.out.mono ?_
    rintro e3 w3 ⟨rfl, hb3⟩
    have hw3 := hw2.trans (hb3.mono hw2.size)
    clear V1 hJ2 hw2 hb3
    go_wp2_with fail
    refine (lives_any _).mono ?_
    rintro e4 w4 ⟨rfl, hb4⟩
    have hfin := hw3.trans (hb4.mono hw3.size)
    go_wp2_with fail
    go_ret
    exact ⟨rfl, hfin⟩
  case pos =>
    have HV := Lib.hid hv
    have HC : Hid (∀ (k : Nat) (x : Jb), js[k]? = some x → Calm x) := fun k x h => validB_calm hv h
    have hN9 : N ≤ 9 := by
      have h := hv
      unfold validB at h
      simp only [Bool.and_eq_true, decide_eq_true_eq] at h
      exact h9 (by rw [← hN]; exact h.1)
    have S1 := Lib.hid (OnTime_yes A1 N c1 js w1 hJ hv)
    clear hv hN h9
    go_wp2_with fail
    refine S1.out.mono ?_
    rintro e2 w2 ⟨A2, q, c2, o, rfl, hR, hRi, hAb, hBest, hb2⟩
    have HRi := Lib.hid hRi
    have HAb := Lib.hid hAb
    have HBest := Lib.hid hBest
    have HRl := Lib.hid hR.1
    have hq : q ≤ 9 := by
      have h1 : o.length ≤ N := short_of_nodup N o (hRi.2.imp fun {x y} h e => by omega) hRi.1
      rw [hR.1] at h1
      omega
    have hJ2 := hJ.later hb2
    have hw2 := hb1.trans (hb2.mono hb1.size)
    have V1 := Lib.hid (Valid_any A1 N c1 js w2 hJ2 HM.out)
    rw [HV.out] at V1
    clear S1 hRi hAb hBest hJ hb1 hb2
    go_wp2_with fail
    refine V1.out.mono ?_
    rintro e3 w3 ⟨rfl, hb3⟩
    have hJ3 := hJ2.later hb3
    have hR3 := hR.later hb3
    have hw3 := hw2.trans (hb3.mono hw2.size)
    have O1 := Lib.hid (rOnTime_yes A1 N c1 js w3 hJ3 hN9 HC.out)
    clear V1 hJ2 hR hw2 hb3
    go_wp2_with fail
    refine O1.out.mono ?_
    rintro e4 w4 ⟨b, rfl, hM, hb4⟩
    have hbq : b = (q : Int) := by
      have h1 := hM.best (T := o) (HRi.out.2.imp fun {x y} h e => by omega) HRi.out.1 HAb.out
      rw [HRl.out] at h1
      obtain ⟨T, t1, t2, t3, t4⟩ := hM.1
      have h2 := HBest.out T t1 t2 t3
      omega
    subst hbq
    have n1 := eqb_self5 (q : Int)
    have hJ4 := hJ3.later hb4
    have hR4 := hR3.later hb4
    have hw4 := hw3.trans (hb4.mono hw3.size)
    have R1 := Lib.hid (Rising_any A2 q c2 N o w4 hR4 (by omega) (by omega))
    clear O1 hM hJ3 hR3 hw3 hb4
    go_wp2_with fail
    refine R1.out.mono ?_
    rintro e5 w5 ⟨g, rfl, hg, hb5⟩
    obtain rfl : g = true := hg.2 HRi.out
    have hJ5 := hJ4.later hb5
    have hR5 := hR4.later hb5
    have hw5 := hw4.trans (hb5.mono hw4.size)
    have T1 := Lib.hid (rAble_any A1 A2 N c1 q c2 js o w5 hJ5 hR5 HC.out HRi.out.1 (by omega))
    clear R1 hg hJ4 hR4 hw4 hb5
    go_wp2_with fail
    refine T1.out.mono ?_
    rintro e6 w6 ⟨g, rfl, hg, hb6⟩
    obtain rfl : g = true := hg.2 HAb.out
    have hw6 := hw5.trans (hb6.mono hw5.size)
    clear T1 hg hJ5 hR5 hw5 hb6
    go_wp2_with fail
    refine (lives_any _).mono ?_
    rintro e7 w7 ⟨rfl, hb7⟩
    have hfin := hw6.trans (hb7.mono hw6.size)
    go_wp2_with fail
    go_ret
    exact ⟨rfl, hfin⟩
end Go.Proofs.Ytnfcigbiebbjdaa
