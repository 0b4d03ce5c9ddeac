/-
  The walk of the law on later jobs.
  No conditions.
-/
import Derived.Test.YtnfcigbiebbjdaaSwsW
import Derived.Test.YtnfcigbiebbjdaaLatI
import Derived.BigRegion
namespace Go.Proofs.Ytnfcigbiebbjdaa
open Go.RowKit

set_option maxRecDepth 100000 in
set_option maxHeartbeats 8000000 in
theorem walkLat (A : Option Addr) (n c : Nat) (x : List Jb) (by_ : Int) (w : World) (rA : JobsA w A n x) (hc : n ≤ c) (hnil : A = none → c = 0) :
    Calls Try.prog 8 #[.slice A n c, .int .i64 by_] w fun e w' => e = .returned (.bool true) ∧ Below w.heap.size w w' := by
  have hxl : x.length = n := rA.1
  have hby := and_1023 by_
  obtain ⟨b, hb⟩ : ∃ b, by_ % 1024 = b := ⟨_, rfl⟩
  have hb0 : 0 ≤ b := by omega
  have hb1 : b ≤ 1023 := by omega
  rw [hb] at hby
  go_enter Try.func8, Try.ntmps8
  have hfl := few_len6 x n 20 (by omega)
  have hm : ∀ (k : Nat) (j : Jb), ((x.take (fewN n 20)).map cutJ)[k]? = some j → j.after.length ≤ 1000 := fun k j h => cut_after h
  have F1 := few_own A n c 20 x w rA hc hnil (by omega)
  have F2 := fun w' (h : Below w.heap.size w w') => few_own A n c 20 x w' (rA.later h) hc hnil (by omega)
  have hl20 : ((x.take (fewN n 20)).map cutJ).length ≤ 64 → ((x.take (fewN n 20)).map cutJ).length ≤ 20 := by
    rw [List.length_map, List.length_take, hxl]
    unfold fewN
    split <;> omega
  clear rA hnil hxl hc hb
  generalize (x.take (fewN n 20)).map cutJ = js at *
  obtain ⟨N, hN⟩ : ∃ N, js.length = N := ⟨_, rfl⟩
  rw [hN] at hfl hl20
  have HN := Lib.hid hN
  have HF1 := Lib.hid F1
  have HF2 := Lib.hid F2
  have HM := Lib.hid hm
  clear hm F1 F2
  go_wp2_with fail
  refine HF1.out.mono ?_
  rintro e1 w1 ⟨A1, c1, rfl, hP1, hb1'⟩
  rw [HN.out] at hP1 ⊢
  have M2 := Lib.hid (HF2.out w1 hb1')
  clear HF1
  go_wp2_with fail
  refine M2.out.mono ?_
  rintro e2 w2 ⟨A2, c2, rfl, hP2, hb2'⟩
  rw [HN.out] at hP2 ⊢
  have M3 := Lib.hid (HF2.out w2 (hb1'.trans (hb2'.mono hb1'.size)))
  clear M2 HF2
  go_wp2_with fail
  refine M3.out.mono ?_
  rintro e3 w3 ⟨A3, c3, rfl, hP3, hb3'⟩
  rw [HN.out] at hP3 ⊢
  clear M3 hby
  have hJ := hP1.jobs hN
  have hP2' := hP2.later hb3'
  have hb13 := hb2'.trans (hb3'.mono hb2'.size)
  have HP2 := Lib.hid hP2
  have HP3 := Lib.hid hP3
  have HB2 := Lib.hid hb2'
  have HB3 := Lib.hid hb3'
  clear hP1 hP2 hb2' hb3' hN
  go_wp2_with fail
  go_loopw [8] (fun i wr => ∃ k : Nat, k ≤ N ∧ i = .int .i64 k ∧ FewP wr w1.heap.size A2 N c2 (jupTo (shJ b) k js) ∧ FewP wr w2.heap.size A3 N c3 (jupTo erJ k js) ∧ Below w1.heap.size w1 wr) (fun i _ => N - (intOf i).toNat)
  case atStart => exact ⟨0, Nat.zero_le _, rfl, by rw [jupTo_zero]; exact hP2', by rw [jupTo_zero]; exact hP3, hb13⟩
  case round =>
    clear hP2' hP3 hb13
    obtain ⟨k, hk, rfl, hL, hE, hbk⟩ := hrel
    by_cases hlt : k < N
    · have hbt : decide ((k : Int) < (N : Int)) = true := by simp; omega
      have hbt2 : (k : Int) < (N : Int) := by omega
      obtain ⟨gL, eL, hL0, hL1, _⟩ := HP2.out.form (by omega)
      obtain ⟨gE, eE, hE0, hE1, _⟩ := HP3.out.form (by omega)
      subst eL eE
      have hne : gL ≠ gE := by omega
      have hlen : (jupTo (shJ b) k js).length = N := by rw [jupTo_len]; exact HN.out
      have hlenE : (jupTo erJ k js).length = N := by rw [jupTo_len]; exact HN.out
      have hjs : js[k]? = some (js.getD k Jb.none) := by rw [List.getD_eq_getElem?_getD, List.getElem?_eq_getElem (by rw [HN.out]; exact hlt)]; rfl
      obtain ⟨j, hj⟩ : ∃ j, j = js.getD k Jb.none := ⟨_, rfl⟩
      rw [← hj] at hjs
      clear hj
      have hLj := (hL.jobs hlen)
      obtain ⟨g, j', e1, hgl, hj', a0, a1, a2, a3, B, mB, cB, a4, _⟩ := hLj.at_ hlt
      cases e1
      rw [jupTo_get (shJ b) hjs] at hj'
      injection hj' with hj'
      subst hj'
      obtain ⟨gL', e9, _, _, fL⟩ := hL.form (by omega)
      cases e9
      obtain ⟨j0, j1, j2, j3, ja⟩ := j
      simp only at a0 a1 a2 a3
      clear hLj a0 a3 a4
      have hxl := later_cell (w := wr)
      have HLh := Lib.hid hL
      have HEh := Lib.hid hE
      have HBk := Lib.hid hbk
      have HJs := Lib.hid hjs
      clear hL hE hbk hjs
      go_wp2_with fail
      go_big_region
      have hmid := lat_mid HLh.out HEh.out HN.out HJs.out hne
      have hend := lat_end hmid.1 hmid.2 HN.out HJs.out hne
      have hbm : Below w1.heap.size w1 ((wr.setCell ⟨gL, k * 5 + 1, none⟩ (.int .i64 (wrap64 (j1 + b)))).setCell ⟨gL, k * 5 + 2, none⟩ (.int .i64 (wrap64 (j2 + b)))).drew :=
        HBk.out.trans (Fix.below (S := fun k => k ≠ gL) (((Fix.refl _ _).setCell (fun e => e rfl) _).setCell (fun e => e rfl) _).drew (fun k hk e => by omega))
      revert hmid hend hbm
      simp only
      generalize ((wr.setCell ⟨gL, k * 5 + 1, none⟩ (.int .i64 (wrap64 (j1 + b)))).setCell ⟨gL, k * 5 + 2, none⟩ (.int .i64 (wrap64 (j2 + b)))).drew = wm
      intro hmid hend hbm
      obtain ⟨hm1, hm2⟩ := hmid
      obtain ⟨gE', e9, _, _, fE⟩ := hm2.form (by omega)
      cases e9
      obtain ⟨g', j'', e1, hgE, _, _, b1, _⟩ := (hm2.jobs hlenE).at_ hlt
      cases e1
      have HEnd := Lib.hid hend
      have hBe := Lib.hid (hbm.trans (Fix.below (B := wm.setCell ⟨gE, k * 5 + 1, none⟩ (.int .i64 0)) (S := fun k => k ≠ gE) ((Fix.refl _ _).setCell (fun e => e rfl) _) (fun k hk e => by omega)))
      clear hm1 hm2 hend hbm hxl fL a1 a2 hgl hlen
      go_wp2_with fail
      go_roundw
      case rel => exact ⟨k + 1, by omega, by go_num, HEnd.out.1, HEnd.out.2, hBe.out⟩
      case measure => simp [intOf]; omega
    · obtain rfl : k = N := by omega
      have hbt : decide ((k : Int) < (k : Int)) = false := by simp
      rw [jupTo_all _ (by rw [HN.out]; exact Nat.le_refl _)] at hL hE
      have hJL := hL.jobs (by rw [List.length_map]; exact HN.out)
      have hJE := hE.jobs (by rw [List.length_map]; exact HN.out)
      have hJ1 := hJ.later hbk
      have hw1 := hb1'.trans (hbk.mono hb1'.size)
      have HML : Hid (∀ (i : Nat) (y : Jb), (js.map (shJ b))[i]? = some y → y.after.length ≤ 1000) := fun i y hy => by
        rw [List.getElem?_map] at hy
        cases hz : js[i]? with
        | none => rw [hz] at hy; cases hy
        | some z =>
          rw [hz] at hy
          simp only [Option.map_some, Option.some.injEq] at hy
          subst hy
          exact HM.out i z hz
      have V1 := Lib.hid (Valid_any A1 k c1 js wr hJ1 HM.out)
      clear hL hE hJ hbk HP2 HP3 HB2 HB3
      by_cases hv : validB js = true
      case neg =>
        rw [Bool.not_eq_true] at hv
        rw [hv] at V1
        clear hJL hJE hJ1
        go_wp2_with fail
        refine V1.out.mono ?_
        rintro e4 w4 ⟨rfl, hb4⟩
        have hw4 := hw1.trans (hb4.mono hw1.size)
        clear V1 hw1 hb4
        go_wp2_with fail
        refine (lives_any _).mono ?_
        rintro e5 w5 ⟨rfl, hb5⟩
        have hfin := hw4.trans (hb5.mono hw4.size)
        go_wp2_with fail
        go_ret
        exact ⟨rfl, hfin⟩
      case pos =>
        rw [hv] at V1
        have HV := Lib.hid hv
        clear hv
        go_wp2_with fail
        refine V1.out.mono ?_
        rintro e4 w4 ⟨rfl, hb4⟩
        have hw4 := hw1.trans (hb4.mono hw1.size)
        have hJL4 := hJL.later hb4
        have hJE4 := hJE.later hb4
        have hJ4 := hJ1.later hb4
        have V2 := Lib.hid (Valid_any A2 k c2 (js.map (shJ b)) w4 hJL4 HML.out)
        clear V1 hw1 hb4 hJL hJE hJ1
        by_cases hv2 : validB (js.map (shJ b)) = true
        case neg =>
          rw [Bool.not_eq_true] at hv2
          rw [hv2] at V2
          clear hJL4 hJE4 hJ4
          go_wp2_with fail
          refine V2.out.mono ?_
          rintro e5 w5 ⟨rfl, hb5⟩
          have hw5 := hw4.trans (hb5.mono hw4.size)
          clear V2 hw4 hb5
          go_wp2_with fail
          refine (lives_any _).mono ?_
          rintro e6 w6 ⟨rfl, hb6⟩
          have hfin := hw5.trans (hb6.mono hw5.size)
          go_wp2_with fail
          go_ret
          exact ⟨rfl, hfin⟩
        case pos =>
          rw [hv2] at V2
          have HV2 := Lib.hid hv2
          have HV3 := Lib.hid (erJ_valid HV.out)
          clear hv2
          go_wp2_with fail
          refine V2.out.mono ?_
          rintro e5 w5 ⟨rfl, hb5⟩
          have hw5 := hw4.trans (hb5.mono hw4.size)
          have hJL5 := hJL4.later hb5
          have hJE5 := hJE4.later hb5
          have hJ5 := hJ4.later hb5
          have S1 := Lib.hid (Sweep_yes A1 k c1 js w5 hJ5 HV.out)
          clear V2 hw4 hb5 hJL4 hJE4 hJ4
          go_wp2_with fail
          refine S1.out.mono ?_
          rintro e6 w6 ⟨v1, s1, m1, rfl, hR1, hD1, hL1, hO1, hb6⟩
          have hw6 := hw5.trans (hb6.mono hw5.size)
          have hJL6 := hJL5.later hb6
          have hJE6 := hJE5.later hb6
          have hJ6 := hJ5.later hb6
          have S2 := Lib.hid (Sweep_yes A2 k c2 (js.map (shJ b)) w6 hJL6 HV2.out)
          have HR1 := Lib.hid hR1
          have HD1 := Lib.hid hD1
          have HL1 := Lib.hid hL1
          clear S1 hw5 hb6 hJL5 hJE5 hJ5 hR1 hD1 hL1
          go_wp2_with fail
          refine S2.out.mono ?_
          rintro e7 w7 ⟨v2, s2, m2, rfl, hR2, hD2, hL2, hO2, hb7⟩
          have hw7 := hw6.trans (hb7.mono hw6.size)
          have hJE7 := hJE6.later hb7
          have hJ7 := hJ6.later hb7
          have hO17 := hO1.later hb7
          have S3 := Lib.hid (Sweep_yes A3 k c3 (js.map erJ) w7 hJE7 HV3.out)
          have hwk : ∀ i : Int, 0 ≤ i → i < k → (jat js i).work ≠ 0 := fun i i0 i1 => by
            obtain ⟨q, rfl⟩ := Int.eq_ofNat_of_zero_le i0
            exact calm_ne2 hJ7 HV.out (by omega)
          have hlaw := later_law (by have h := shJ_later HV.out hb0 hb1; rw [HN.out] at h; exact h) hb0 hwk (fun i _ _ => (jat_calm HV.out i).2.2.2.2.1) HR1.out HD1.out HL1.out hR2 hD2 hL2
          have HOut : Hid (s2.out.reverse = s1.out.reverse.map (shS b)) := by show _ = _; rw [hlaw.1, List.map_reverse]
          have hm12 := hlaw.2
          subst hm12
          have HSl := Lib.hid (SlI.law HV.out (by have := hfl; have h := HV.out; unfold validB at h; simp only [Bool.and_eq_true, decide_eq_true_eq] at h; rw [← HN.out]; exact h.1) HR1.out HD1.out)
          have HWk := Lib.hid hwk
          have HSh := Lib.hid ((Short.start js k).reach (fun i => (jat_calm HV.out i).2.2.2.2.2) (Sound.start (validB_fair HV.out)) HR1.out).le
          clear S2 hw6 hb7 hJL6 hJE6 hJ6 hO1 hR2 hD2 hL2 hlaw hwk HR1 HD1 HL1
          go_wp2_with fail
          refine S3.out.mono ?_
          rintro e8 w8 ⟨v3, s3, m3, rfl, hR3, hD3, hL3, hO3, hb8⟩
          have hw8 := hw7.trans (hb8.mono hw7.size)
          have hJ8 := hJ7.later hb8
          have hO18 := hO17.later hb8
          have hO28 := hO2.later hb8
          have hk64 : k ≤ 64 := by have h := HV.out; unfold validB at h; simp only [Bool.and_eq_true, decide_eq_true_eq] at h; rw [← HN.out]; exact h.1
          have hjm : ∀ i : Int, 0 ≤ i → i < k → jat (js.map erJ) i = erJ (jat js i) := fun i i0 i1 => jat_map i0 (by rw [HN.out]; exact i1)
          have HEv := Lib.hid (Ev.law HV3.out (fun i i0 i1 => by rw [hjm i i0 i1]; rfl) (fun i i0 i1 => by rw [hjm i i0 i1]; exact HWk.out i i0 i1) hR3 hD3)
          have HS3 := Lib.hid (SlI.law HV3.out hk64 hR3 hD3)
          have HJm := Lib.hid hjm
          clear S3 hw7 hb8 hJE7 hJ7 hO17 hO2 hR3 hD3 hL3 hjm HML HM
          rw [HOut.out] at hO28
          have hle : s1.out.reverse.length ≤ 130 := by rw [List.length_reverse]; have := HSh.out; omega
          generalize s1.out.reverse = os at *
          generalize s3.out.reverse = us at *
          obtain ⟨p1, q1, e1⟩ := hO18.short
          obtain ⟨p2, q2, e2⟩ := hO28.short
          obtain ⟨p3, q3, e3⟩ := hO3.short
          rw [List.length_map] at e2
          rw [HEv.out.1] at e3
          subst e1 e2 e3
          obtain ⟨L, hLl⟩ : ∃ L, L = os.length := ⟨_, rfl⟩
          rw [← hLl] at hO18 hO28 hle ⊢
          have HLl := Lib.hid hLl
          clear hLl
          have n1 := neb_self6 (L : Int)
          have n2 := neb_self6 m1
          have n3 := neb_self6 (k : Int)
          go_wp2_with fail
          refine (lives_any _).mono ?_
          rintro e9 w9 ⟨rfl, hb9⟩
          have hw9 := hw8.trans (hb9.mono hw8.size)
          have hJ9 := hJ8.later hb9
          have hO19 := hO18.later hb9
          have hO29 := hO28.later hb9
          have hO39 := hO3.later hb9
          clear hw8 hb9 hJ8 hO18 hO28 hO3
          go_wp2_with fail
          go_loopw [18] (fun i wr => ∃ q : Nat, q ≤ L ∧ i = .int .i64 q ∧ Below w9.heap.size w9 wr) (fun i _ => L - (intOf i).toNat)
          case atStart => exact ⟨0, Nat.zero_le _, rfl, Below.refl _ _⟩
          case round =>
            obtain ⟨q, hq, rfl, hbq⟩ := hrel
            by_cases hql : q < L
            · have hbq1 : decide ((q : Int) < (L : Int)) = true := by simp; omega
              have hbq2 : (q : Int) < (L : Int) := by omega
              obtain ⟨g, cg, z, e1, hg, hz, x0, x1, x2⟩ := (hO19.later hbq).at_ (i := q) (by rw [← HLl.out]; exact hql)
              obtain ⟨g', cg', z', e2, hg', hz', y0, y1, y2⟩ := (hO29.later hbq).at_ (i := q) (by rw [List.length_map, ← HLl.out]; exact hql)
              rw [← HLl.out] at e1
              rw [List.length_map, ← HLl.out] at e2
              cases e1
              cases e2
              rw [List.getElem?_map, hz] at hz'
              simp only [Option.map_some, Option.some.injEq] at hz'
              subst hz'
              have hE := HSl.out.each q z hz
              have hrl := (jat_calm HV.out z.job).2.2.2.2.1
              obtain ⟨fr, hfr⟩ : ∃ fr, fr = z.fr := ⟨_, rfl⟩
              obtain ⟨tl, htl⟩ : ∃ tl, tl = z.till := ⟨_, rfl⟩
              obtain ⟨jb, hjb⟩ : ∃ jb, jb = z.job := ⟨_, rfl⟩
              have hy1 : (shS b z).fr = fr + b := by rw [hfr]; rfl
              have hy2 : (shS b z).till = tl + b := by rw [htl]; rfl
              have hy0 : (shS b z).job = jb := by rw [hjb]; rfl
              rw [hy0] at y0
              rw [hy1] at y1
              rw [hy2] at y2
              rw [← hjb] at x0
              rw [← hfr] at x1
              rw [← htl] at x2
              have hf0 : 0 ≤ fr := by omega
              have hf1 : fr ≤ 1280000 := by omega
              have ht0 : 0 ≤ tl := by omega
              have ht1 : tl ≤ 1280000 := by omega
              have hs1 : fr + b - b = fr := by omega
              have hs2 : tl + b - b = tl := by omega
              have z0 := eqb_self6 jb
              have z1 := eqb_self6 fr
              have z2 := eqb_self6 tl
              have hB := Lib.hid hbq
              clear hE hrl hfr htl hjb hy0 hy1 hy2 hbq hz
              go_wp2_with fail
              go_quiet (fail)
              go_wp2_with fail
              go_roundw
              case rel => exact ⟨q + 1, by omega, by go_num, hB.out.trans ((below_drewN (Below.refl _ _) _).mono hB.out.size)⟩
              case measure => simp [intOf]; omega
            · obtain rfl : q = L := by omega
              have hbq1 : decide ((q : Int) < (q : Int)) = false := by simp
              have hw10 := hw9.trans (hbq.mono hw9.size)
              have hJ10 := hJ9.later hbq
              have hO10 := hO39.later hbq
              clear hO19 hO29 hO39 hJ9 hw9 hbq HSl
              go_wp2_with fail
              go_loopw [19] (fun i wi => ∃ q : Nat, q ≤ k ∧ i = .int .i64 q ∧ Below wr.heap.size wr wi) (fun i _ => k - (intOf i).toNat)
              case atStart => exact ⟨0, Nat.zero_le _, rfl, Below.refl _ _⟩
              case round =>
                obtain ⟨q, hq, rfl, hbq⟩ := hrel
                by_cases hqk : q < k
                · have hbq2 : decide ((q : Int) < (k : Int)) = true := by simp; omega
                  have hbq3 : (q : Int) < (k : Int) := by omega
                  obtain ⟨g, cg, z, e1, hg, hz, x0, x1, x2⟩ := (hO10.later hbq).at_ (i := q) (by rw [HEv.out.1]; exact hqk)
                  rw [HEv.out.1] at e1
                  cases e1
                  have hE := HS3.out.each q z hz
                  obtain ⟨j, hj⟩ : ∃ j : Nat, z.job = j := Int.eq_ofNat_of_zero_le hE.1
                  rw [hj] at x0 hE
                  have hjk : j < k := by omega
                  have hjk2 : (j : Int) < (k : Int) := by omega
                  have p1 : decide ((j : Int) < 0) = false := by simp
                  have p2 : decide ((j : Int) ≥ (k : Int)) = false := decide_eq_false (by omega)
                  have p2' : decide (k ≤ j) = false := decide_eq_false (by omega)
                  have hB := Lib.hid hbq
                  by_cases hq0 : q = 0
                  · subst hq0
                    have p5 : decide (((0 : Nat) : Int) > 0) = false := by decide
                    simp only [Nat.zero_mul, Nat.zero_add] at x0 x1 x2
                    clear hE hj hz hbq
                    go_wp2_with fail
                    go_quiet (fail)
                    go_wp2_with fail
                    go_roundw
                    case rel => exact ⟨_, hqk, by first | rfl | go_num, hB.out.trans ((below_drewN (Below.refl _ _) _).mono hB.out.size)⟩
                    case measure => simp [intOf]; omega
                  · obtain ⟨p, rfl⟩ : ∃ p, q = p + 1 := ⟨q - 1, by omega⟩
                    have p5 : decide (((p + 1 : Nat) : Int) > 0) = true := decide_eq_true (by omega)
                    have p5' : decide (0 < (p : Int) + 1) = true := decide_eq_true (by omega)
                    have en : ((p + 1 : Nat) : Int) - 1 = (p : Int) := by omega
                    have en2 : ((p : Int) + 1) - 1 = (p : Int) := by omega
                    have eq1 : (p : Int) < (k : Int) := by omega
                    have eq2 : (p : Int) + 1 < (k : Int) := by omega
                    obtain ⟨g8, cg8, y, e8, _, hy, y0, _, y2⟩ := (hO10.later hbq).at_ (i := p) (by rw [HEv.out.1]; omega)
                    have e10 : g = g8 := by injection e8 with e8; injection e8 with e8; injection e8
                    subst e10
                    have hE8 := HS3.out.each p y hy
                    obtain ⟨j8, hj8⟩ : ∃ j8 : Nat, y.job = j8 := Int.eq_ofNat_of_zero_le hE8.1
                    rw [hj8] at y0 hE8
                    have hjk8 : j8 < k := by omega
                    have hjk9 : (j8 : Int) < (k : Int) := by omega
                    have had := HEv.out.2 p y z hy hz
                    rw [hj, hj8, HJm.out j (by omega) hjk2, HJm.out j8 (by omega) hjk9] at had
                    rw [← had.1] at y2
                    have n4 := neb_self6 z.fr
                    obtain ⟨gA, B, mB, cB, e1, hgl, _, _, _, d2, _, _, _⟩ := hJ10.both hbq hjk
                    subst e1
                    obtain ⟨gA', B', mB', cB', e1, _, _, _, _, f2, _, _, _⟩ := hJ10.both hbq hjk8
                    cases e1
                    have p6 : decide ((jat js j).due < (jat js j8).due) = false := decide_eq_false (by have := had.2; show ¬ (erJ (jat js j)).due < (erJ (jat js j8)).due; omega)
                    clear hE hE8 hj hj8 hz hy hbq had e8 hq0
                    go_wp2_with fail
                    go_quiet (fail)
                    go_wp2_with fail
                    go_roundw
                    case rel => exact ⟨_, hqk, by first | rfl | go_num, hB.out.trans ((below_drewN (Below.refl _ _) _).mono hB.out.size)⟩
                    case measure => simp [intOf]; omega
                · obtain rfl : q = k := by omega
                  have hbq2 : decide ((q : Int) < (q : Int)) = false := by simp
                  have hfin := hw10.trans (hbq.mono hw10.size)
                  go_wp2_with fail
                  go_ret
                  exact ⟨rfl, hfin⟩
end Go.Proofs.Ytnfcigbiebbjdaa
