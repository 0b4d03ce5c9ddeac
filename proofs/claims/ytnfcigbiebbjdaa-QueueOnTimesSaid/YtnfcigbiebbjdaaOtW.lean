/-
  The walk of the law on the most jobs on time.
  No conditions.
-/
import Derived.Test.YtnfcigbiebbjdaaOnT2
namespace Go.Proofs.Ytnfcigbiebbjdaa
open Go.RowKit

theorem few_len3 (x : List Jb) (n q : Nat) (hq : q ≤ 64) : ((x.take (fewN n q)).map cutJ).length ≤ 65 := by
  rw [List.length_map, List.length_take]
  unfold fewN
  split <;> omega
theorem neb_self4 (x : Int) : (x != x) = false := by simp

set_option maxRecDepth 100000 in
set_option maxHeartbeats 8000000 in
theorem walkOt (A C : Option Addr) (n c p e : Nat) (x : List Jb) (z : List Int) (w : World) (rA : JobsA w A n x) (hc : n ≤ c) (hnil : A = none → c = 0) (rC : RowI w C p z) (hC : p ≤ e) (nC : C = none → e = 0) :
    Calls Try.prog 14 #[.slice A n c, .slice C p e] w fun e w' => e = .returned (.bool true) ∧ Below w.heap.size w w' := by
  have D1 := Lib.hid (fun w1 h1 => cut_any C p e 64 z w1 (rC.later (w' := w1) h1) hC nC (by omega))
  have l3 : (z.take 64).length ≤ 64 := by rw [List.length_take]; omega
  generalize z.take 64 = o at *
  obtain ⟨Q, hQ⟩ : ∃ Q, Q = o.length := ⟨_, rfl⟩
  have HQl := Lib.hid hQ
  rw [← hQ] at l3
  clear hQ rC
  go_enter Try.func14, Try.ntmps14
  go_wp2_with fail
  refine (few_any A n c 40 x w rA hc hnil (by omega)).mono ?_
  rintro e1 w1 ⟨A1, c1, rfl, hJ, hb1⟩
  have hm : ∀ (k : Nat) (j : Jb), ((x.take (fewN n 40)).map cutJ)[k]? = some j → j.after.length ≤ 1000 := fun k j h => cut_after h
  have hfl := few_len3 x n 40 (by omega)
  clear rA hnil
  generalize (x.take (fewN n 40)).map cutJ = js at *
  generalize hN : js.length = N at *
  have V1 := Lib.hid (Valid_any A1 N c1 js w1 hJ hm)
  clear hm
  by_cases hv : validB js = true
  case neg =>
    rw [Bool.not_eq_true] at hv
    rw [hv] at V1
    go_wp2_with fail
    refine V1.out.mono ?_
    rintro e2 w2 ⟨rfl, hb2⟩
    go_wp2_with fail
    refine (lives_any _).mono ?_
    rintro e3 w3 ⟨rfl, hb3⟩
    have hfin := (hb1.trans (hb2.mono hb1.size)).trans (hb3.mono (Nat.le_trans hb1.size hb2.size))
    go_wp2_with fail
    go_ret
    exact ⟨rfl, hfin⟩
  case pos =>
    have HV := Lib.hid hv
    have HCm : Hid (∀ (k : Nat) (x : Jb), js[k]? = some x → Calm x) := fun k x h => validB_calm hv h
    rw [hv] at V1
    clear hv hN
    go_wp2_with fail
    refine V1.out.mono ?_
    rintro e2 w2 ⟨rfl, hb2⟩
    have hJ2 := hJ.later hb2
    have hw2 := hb1.trans (hb2.mono hb1.size)
    have S1 := Lib.hid (OnTime_yes A1 N c1 js w2 hJ2 HV.out)
    clear V1 hJ hb1 hb2
    go_wp2_with fail
    refine S1.out.mono ?_
    rintro e3 w3 ⟨A3, q, c3, s, rfl, hR, hRi, hAb, hBest, hb3⟩
    have HRi := Lib.hid hRi
    have HAb := Lib.hid hAb
    have HBest := Lib.hid hBest
    have hJ3 := hJ2.later hb3
    have hw3 := hw2.trans (hb3.mono hw2.size)
    have hq : q ≤ 65 := by
      have h1 : s.length ≤ N := short_of_nodup N s (hRi.2.imp fun {x y} h e => by omega) hRi.1
      rw [hR.1] at h1
      omega
    have B1 := Lib.hid (qAble_any A1 A3 N c1 q c3 js s w3 hJ3 hR HV.out (by omega))
    clear S1 hRi hAb hBest hJ2 hw2 hb3
    go_wp2_with fail
    refine B1.out.mono ?_
    rintro e4 w4 ⟨d, t, rfl, hcd, hb4⟩
    have hd : d = true ∧ t = 0 := by
      rcases hcd with ⟨h, _⟩ | ⟨_, h1, h2⟩
      · exact absurd HRi.out h
      · exact ⟨h1.2 HAb.out, h2⟩
    obtain ⟨rfl, rfl⟩ := hd
    have hJ4 := hJ3.later hb4
    have hw4 := hw3.trans (hb4.mono hw3.size)
    have nq := neb_self4 (q : Int)
    clear B1 hcd hJ3 hR hw3 hb4
    go_wp2_with fail
    refine (lives_any _).mono ?_
    rintro e5 w5 ⟨rfl, hb5⟩
    have hJ5 := hJ4.later hb5
    have hw5 := hw4.trans (hb5.mono hw4.size)
    have D2 := Lib.hid (D1.out w5 hw5)
    clear D1 hJ4 hw4 hb5
    go_wp2_with fail
    refine D2.out.mono ?_
    rintro e6 w6 ⟨v6, rfl, hown6, hb6⟩
    rw [← HQl.out] at hown6
    obtain ⟨A6, c6, rfl⟩ := own_slice hown6
    have ho6 := own_rowH hown6
    have hJ6 := hJ5.later hb6
    have hw6 := hw5.trans (hb6.mono hw5.size)
    have R1 := Lib.hid (Rising_any A6 Q c6 N o w6 ho6 (by omega) (by omega))
    clear D2 hown6 hJ5 hw5 hb6
    go_wp2_with fail
    refine R1.out.mono ?_
    rintro e7 w7 ⟨g, rfl, hg, hb7⟩
    have HG := Lib.hid hg
    have hJ7 := hJ6.later hb7
    have ho7 := ho6.later hb7
    have hw7 := hw6.trans (hb7.mono hw6.size)
    clear R1 hg hJ6 ho6 hw6 hb7
    cases g with
    | false =>
      clear HG
      go_wp2_with fail
      go_ret
      exact ⟨rfl, hw7⟩
    | true =>
      have HRP : Hid (RiseP N o) := HG.out.1 rfl
      have T1 := Lib.hid (rAble_any A1 A6 N c1 Q c6 js o w7 hJ7 ho7 HCm.out HRP.out.1 (by omega))
      clear HG
      go_wp2_with fail
      refine T1.out.mono ?_
      rintro e8 w8 ⟨g, rfl, hg, hb8⟩
      have HG := Lib.hid hg
      have hw8 := hw7.trans (hb8.mono hw7.size)
      clear T1 hg hJ7 ho7 hw7 hb8
      cases g with
      | false =>
        clear HG
        go_wp2_with fail
        go_ret
        exact ⟨rfl, hw8⟩
      | true =>
        have hle : o.length ≤ q := HBest.out o (HRP.out.2.imp fun {x y} h e => by omega) HRP.out.1 (HG.out.1 rfl)
        rw [← HQl.out] at hle
        have t1 : decide ((Q : Int) ≤ (q : Int)) = true := by simp; omega
        clear HG
        go_wp2_with fail
        go_ret
        exact ⟨by first | rfl | (rw [t1]; rfl), hw8⟩
end Go.Proofs.Ytnfcigbiebbjdaa
