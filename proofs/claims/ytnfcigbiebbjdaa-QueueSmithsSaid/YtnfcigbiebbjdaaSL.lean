/-
  The walk of the law on Smith's order.
  No conditions.
-/
import Derived.Test.YtnfcigbiebbjdaaFew3
import Derived.Test.YtnfcigbiebbjdaaRWtd
namespace Go.Proofs.Ytnfcigbiebbjdaa
open Go.RowKit

theorem cut_after {l : List Jb} {k : Nat} {j : Jb} (h : (l.map cutJ)[k]? = some j) : j.after.length ≤ 1000 := by
  rw [List.getElem?_map] at h
  cases hx : l[k]? with
  | none => rw [hx] at h; simp at h
  | some y =>
    rw [hx] at h
    simp at h
    subst h
    simp only [cutJ, List.length_take]
    omega
theorem smith_min {l : List Jb} {o m : List Int} (hv : validB l = true) (hs : o.Pairwise (leOf (smithC l))) (hp : m.Perm o) : wsum l 0 o ≤ wsum l 0 m :=
  smith_least l (validB_fair hv) o m 0 (hs.imp fun {x y} h => by
    have := h.1
    rw [smithC_neg l (validB_fair hv), Bool.not_eq_true] at this
    exact this) hp

set_option maxRecDepth 100000 in
set_option maxHeartbeats 8000000 in
theorem walkSL (A C : Option Addr) (n c p e : Nat) (x : List Jb) (z : List Int) (w : World) (rA : JobsA w A n x) (hc : n ≤ c) (hnil : A = none → c = 0) (rC : RowI w C p z) :
    Calls Try.prog 3 #[.slice A n c, .slice C p e] w fun e w' => e = .returned (.bool true) ∧ Below w.heap.size w w' := by
  go_enter Try.func3, Try.ntmps3
  go_wp2_with fail
  refine (few_any A n c 30 x w rA hc hnil (by omega)).mono ?_
  rintro e1 w1 ⟨A1, c1, rfl, hJ, hb1⟩
  have hm : ∀ (k : Nat) (j : Jb), ((x.take (fewN n 30)).map cutJ)[k]? = some j → j.after.length ≤ 1000 := fun k j h => cut_after h
  have rC1 := rC.later hb1
  clear rA hnil rC
  generalize (x.take (fewN n 30)).map cutJ = js at *
  generalize hN : js.length = N at *
  have V1 := Lib.hid (Valid_any A1 N c1 js w1 hJ hm)
  clear hm
  by_cases hv : validB js = true
  case neg =>
    rw [Bool.not_eq_true] at hv
    rw [hv] at V1
    go_wp2_with fail
    refine V1.out.mono ?_
    rintro e2 w2 ⟨rfl, hb2⟩
    go_wp2_with fail
    refine (lives_any _).mono ?_
    rintro e3 w3 ⟨rfl, hb3⟩
    have hfin := (hb1.trans (hb2.mono hb1.size)).trans (hb3.mono (Nat.le_trans hb1.size hb2.size))
    go_wp2_with fail
    go_ret
    exact ⟨rfl, hfin⟩
  case pos =>
    have HV := Lib.hid hv
    have HT : Hid (∀ (k : Nat) (x : Jb), js[k]? = some x → Tame x) := fun k x h => validB_tame hv h
    have hN64 : N ≤ 64 := by
      have h := hv
      unfold validB at h
      simp only [Bool.and_eq_true, decide_eq_true_eq] at h
      rw [← hN]; exact h.1
    rw [hv] at V1
    clear hv hN
    go_wp2_with fail
    refine V1.out.mono ?_
    rintro e2 w2 ⟨rfl, hb2⟩
    have hJ2 := hJ.later hb2
    have rC2 := rC1.later hb2
    have hw2 := hb1.trans (hb2.mono hb1.size)
    have S1 := Lib.hid (Smith_yes A1 N c1 js w2 hJ2 HV.out)
    clear V1 hJ rC1 hb1 hb2
    go_wp2_with fail
    refine S1.out.mono ?_
    rintro e3 w3 ⟨R, o, rfl, hP, hS, hR, hb3⟩
    have HP := Lib.hid hP
    have HS := Lib.hid hS
    have HOr := Lib.hid (isOrd_of_perm hP)
    obtain ⟨n1, hn1⟩ : ∃ n1, n1 = wsum js 0 o := ⟨_, rfl⟩
    rw [← hn1]
    have HN1 := Lib.hid hn1
    have hin : ∀ q ∈ o, 0 ≤ q ∧ q < (N : Int) := fun q hq => mem_nums.1 (hP.mem_iff.1 hq)
    have HIn := Lib.hid hin
    have hJ3 := hJ2.later hb3
    have rC3 := rC2.later hb3
    have hw3 := hw2.trans (hb3.mono hw2.size)
    have O1 := Lib.hid (Order_yes (some ⟨R, 0, none⟩) N N o w3 hR HOr.out (by omega))
    clear S1 hP hS hn1 hin hJ2 rC2 hw2 hb3
    have t1 : ((n1 : Int) != n1) = false := by simp
    go_wp2_with fail
    refine O1.out.mono ?_
    rintro e4 w4 ⟨rfl, hb4⟩
    have hR4 := hR.later hb4
    have hJ4 := hJ3.later hb4
    have rC4 := rC3.later hb4
    have hw4 := hw3.trans (hb4.mono hw3.size)
    have L1 := Lib.hid (rWeighted_any A1 (some ⟨R, 0, none⟩) N c1 N N js o w4 hJ4 hR4 HT.out HIn.out (by omega))
    rw [← HN1.out] at L1
    clear O1 hR hJ3 rC3 hw3 hb4
    go_wp2_with fail
    refine L1.out.mono ?_
    rintro e5 w' ⟨rfl, rfl⟩
    go_wp2_with fail
    refine (lives_any _).mono ?_
    rintro e6 w5 ⟨rfl, hb5⟩
    have hR5 := hR4.later hb5
    have hJ5 := hJ4.later hb5
    have rC5 := rC4.later hb5
    have hw5 := hw4.trans (hb5.mono hw4.size)
    have X1 := Lib.hid (mixed_any (some ⟨R, 0, none⟩) C N N p e o z w5 hR5 rC5 (by omega))
    clear L1 hR4 hJ4 rC4 hw4 hb5
    go_wp2_with fail
    refine X1.out.mono ?_
    rintro e7 w6 ⟨D, cd, o2, rfl, hP2, hR2, hb6⟩
    have hJ6 := hJ5.later hb6
    have hw6 := hw5.trans (hb6.mono hw5.size)
    have L2 := Lib.hid (rWeighted_any A1 D N c1 N cd js o2 w6 hJ6 hR2 HT.out (fun q hq => HIn.out q (hP2.mem_iff.1 hq)) (by omega))
    have hle := smith_min HV.out HS.out hP2
    rw [← HN1.out] at hle
    generalize wsum js 0 o2 = n2 at *
    have t2 : decide (n2 < n1) = false := by simp; omega
    have t2i : ¬ n2 < n1 := by omega
    clear X1 hR5 hJ5 rC5 hw5 hb6 hP2 hR2 hle
    go_wp2_with fail
    refine L2.out.mono ?_
    rintro e8 w' ⟨rfl, rfl⟩
    by_cases h5 : 5 < N
    · have d5 : decide ((N : Int) > 5) = true := by simp; omega
      have d5i : (5 : Int) < (N : Int) := by omega
      go_wp2_with fail
      go_ret
      exact ⟨rfl, hw6⟩
    · have d5 : decide ((N : Int) > 5) = false := by simp; omega
      have d5i : ¬ (5 : Int) < (N : Int) := by omega
      go_wp2_with fail
      refine (Orders_any N _ (by omega)).mono ?_
      rintro e10 w9 ⟨v, NN, rfl, hNN, vs, LL, hvs, hown, hrows, hord, hb9⟩
      have HRw := Lib.hid hrows
      have HOd := Lib.hid hord
      obtain ⟨G, cG, rfl⟩ := own_slice hown
      have hJ9 := hJ6.later hb9
      have hw9 := hw6.trans (hb9.mono hw6.size)
      clear hrows hord hb9 L2 hJ6 hw6 t2 t2i
      go_wp2_with fail
      go_loopw [10] (fun i wr => ∃ q : Nat, q ≤ NN ∧ i = .int .i64 q ∧ w9 = wr) (fun i _ => NN - (intOf i).toNat)
      case atStart => exact ⟨0, Nat.zero_le _, rfl, rfl⟩
      case round =>
        obtain ⟨q, hq, rfl, rfl⟩ := hrel
        by_cases hqN : q < NN
        · have hbq : decide ((q : Int) < (NN : Int)) = true := by simp; omega
          have hbq2 : (q : Int) < (NN : Int) := by omega
          obtain ⟨l, hl⟩ : ∃ l, LL[q]? = some l := ⟨_, List.getElem?_eq_getElem (by rw [← HRw.out.1, hvs]; exact hqN)⟩
          obtain ⟨v, hv, hir⟩ := HRw.out.2 q l hl
          obtain ⟨B2, c2, rfl, hlc, hBr⟩ := hir.row
          have hlp := HOd.out l (List.mem_of_getElem? hl)
          obtain ⟨g2, cap2, e1, hg1, hg2⟩ := hown.form (by omega)
          cases e1
          have hcell := hown.cellAt q (by omega)
          rw [hv] at hcell
          have hll : l.length = N := by rw [hlp.length_eq, nums_length]
          rw [hll] at hBr hcell
          have L4 := Lib.hid (rWeighted_any A1 (some ⟨B2, 0, none⟩) N c1 N c2 js l w9 hJ9 hBr HT.out (fun q hq => mem_nums.1 (hlp.mem_iff.1 hq)) (by omega))
          have hle := smith_min HV.out HS.out (hlp.trans HP.out.symm)
          rw [← HN1.out] at hle
          generalize wsum js 0 l = n3 at *
          have t3 : decide (n3 < n1) = false := by simp; omega
          have t3i : ¬ n3 < n1 := by omega
          clear hv hir hlp hl hle hBr hll hlc
          go_wp2_with fail
          refine L4.out.mono ?_
          rintro e11 w' ⟨rfl, rfl⟩
          go_wp2_with fail
          go_roundw
          case rel => exact ⟨q + 1, by omega, by go_num, trivial⟩
          case measure => simp [intOf]; omega
        · obtain rfl : q = NN := by omega
          have hbq : decide ((q : Int) < (q : Int)) = false := by simp
          go_wp2_with fail
          go_ret
          exact ⟨rfl, hw9⟩
end Go.Proofs.Ytnfcigbiebbjdaa
