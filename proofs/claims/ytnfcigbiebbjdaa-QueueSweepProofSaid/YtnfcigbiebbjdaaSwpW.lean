/-
  The walk of the law on the sweep's proof.
  No conditions.
-/
import Derived.Test.YtnfcigbiebbjdaaSwsW
import Derived.Test.YtnfcigbiebbjdaaSwP
namespace Go.Proofs.Ytnfcigbiebbjdaa
open Go.RowKit

set_option maxRecDepth 100000 in
set_option maxHeartbeats 8000000 in
theorem walkSwp (A : Option Addr) (n c : Nat) (x : List Jb) (w : World) (rA : JobsA w A n x) (hc : n ≤ c) (hnil : A = none → c = 0) :
    Calls Try.prog 10 #[.slice A n c] w fun e w' => e = .returned (.bool true) ∧ Below w.heap.size w w' := by
  have hxl : x.length = n := rA.1
  go_enter Try.func10, Try.ntmps10
  go_wp2_with fail
  refine (few_any A n c 64 x w rA hc hnil (by omega)).mono ?_
  rintro e1 w1 ⟨A1, c1, rfl, hJ, hb1⟩
  have hm : ∀ (k : Nat) (j : Jb), ((x.take (fewN n 64)).map cutJ)[k]? = some j → j.after.length ≤ 1000 := fun k j h => cut_after h
  have hfl := few_len6 x n 64 (by omega)
  clear rA hnil hxl
  generalize (x.take (fewN n 64)).map cutJ = js at *
  generalize hN : js.length = N at *
  have HM := Lib.hid hm
  clear hm
  have V1 := Lib.hid (Valid_any A1 N c1 js w1 hJ HM.out)
  by_cases hv : validB js = true
  case neg =>
    rw [Bool.not_eq_true] at hv
    rw [hv] at V1
    go_wp2_with fail
    refine V1.out.mono ?_
    rintro e2 w2 ⟨rfl, hb2⟩
    have hw2 := hb1.trans (hb2.mono hb1.size)
    clear V1 hJ hb1 hb2
    go_wp2_with fail
    refine (lives_any _).mono ?_
    rintro e5 w5 ⟨rfl, hb5⟩
    have hfin := hw2.trans (hb5.mono hw2.size)
    go_wp2_with fail
    go_ret
    exact ⟨rfl, hfin⟩
  case pos =>
    rw [hv] at V1
    by_cases h0 : N = 0
    · subst h0
      have hz : (((0 : Nat) : Int) == 0) = true := by decide
      go_wp2_with fail
      refine V1.out.mono ?_
      rintro e2 w2 ⟨rfl, hb2⟩
      have hw2 := hb1.trans (hb2.mono hb1.size)
      clear V1 hJ hb1 hb2
      go_wp2_with fail
      refine (lives_any _).mono ?_
      rintro e5 w5 ⟨rfl, hb5⟩
      have hfin := hw2.trans (hb5.mono hw2.size)
      go_wp2_with fail
      go_ret
      exact ⟨rfl, hfin⟩
    · have HV := Lib.hid hv
      have hN64 : N ≤ 64 := by
        have h := hv
        unfold validB at h
        simp only [Bool.and_eq_true, decide_eq_true_eq] at h
        rw [← hN]; exact h.1
      have hz : ((N : Int) == 0) = false := by simp; omega
      have hN0 : 0 < N := by omega
      clear hv hfl h0
      go_wp2_with fail
      refine V1.out.mono ?_
      rintro e2 w2 ⟨rfl, hb2⟩
      have hJ2 := hJ.later hb2
      have hw2 := hb1.trans (hb2.mono hb1.size)
      have S1 := Lib.hid (Sweep_yes A1 N c1 js w2 hJ2 HV.out)
      have HWk : Hid (∀ i : Nat, i < N → (jat js i).work ≠ 0) := fun i hi => calm_ne2 hJ HV.out hi
      clear V1 hJ hb1 hb2
      go_wp2_with fail
      refine S1.out.mono ?_
      rintro e3 w3 ⟨v1, s, m, rfl, hRe, hDo, hLm, hOu, hb3⟩
      have HCr := Lib.hid (hLm.crowd HV.out HWk.out hRe hDo hN0)
      have HLm := Lib.hid hLm
      have HSl := Lib.hid (SlI.law HV.out hN64 hRe hDo)
      have hsh := ((Short.start js N).reach (fun i => (jat_calm HV.out i).2.2.2.2.2) (Sound.start (validB_fair HV.out)) hRe).le
      have hfb := FinB.reach HV.out hRe
      have hnb := ((Sound.start (n := N) (validB_fair HV.out)).reach (fun i => (jat_calm HV.out i).2.2.2.2.2) hRe).bound HV.out hN64
      have HFb : Hid (∀ i, 0 ≤ s.fin i ∧ s.fin i ≤ 1280000) := fun i => by have := hfb i; omega
      have hle : s.out.reverse.length ≤ 2 * N := by rw [List.length_reverse]; omega
      have hJ3 := hJ2.later hb3
      have hw3 := hw2.trans (hb3.mono hw2.size)
      have C1 := Lib.hid (Crowded_yes A1 N c1 js w3 hJ3 HV.out hN0)
      have HCo := Lib.hid (CwOk.all (l := js) (n := N) N (Nat.le_refl _))
      clear S1 hRe hDo hLm hJ2 hw2 hb3 hsh hfb hnb hN
      generalize s.fin = fin at *
      generalize s.out.reverse = os at *
      obtain ⟨cw, hcw⟩ : ∃ cw, cw = cwAll js N N := ⟨_, rfl⟩
      rw [← hcw] at C1 HCr HCo
      clear hcw
      go_wp2_with fail
      refine C1.out.mono ?_
      rintro e4 w4 ⟨rfl, hb4⟩
      have hJ4 := hJ3.later hb4
      have hO4 := hOu.later hb4
      have hw4 := hw3.trans (hb4.mono hw3.size)
      clear C1 hJ3 hOu hw3 hb4
      obtain ⟨a, ca, e1⟩ := hO4.short
      subst e1
      obtain ⟨L, hL⟩ : ∃ L, L = os.length := ⟨_, rfl⟩
      rw [← hL] at hle hO4 ⊢
      have HL := Lib.hid hL
      clear hL
      have f1 : decide ((L : Int) > 2 * (N : Int)) = false := decide_eq_false (by omega)
      have hmk := make_ints N (by omega)
      go_wp2_with fail
      refine (lives_any _).mono ?_
      rintro e6 w6 ⟨rfl, hb6⟩
      have hJ6 := hJ4.later hb6
      have hO6 := hO4.later hb6
      have hw6 := hw4.trans (hb6.mono hw4.size)
      clear hJ4 hO4 hw4 hb6
      have A1' := (RowT.new w6 N).later (((Below.refl _ _).alloc (Nat.le_refl _) (.cells (rowc (List.replicate N 0)) 3)).drew)
      have A2' := (RowT.new (w6.alloc (.cells (rowc (List.replicate N 0)) 3)) N).later (Below.refl _ _).drew
      have A3' : Below w6.heap.size w6 ((w6.alloc (.cells (rowc (List.replicate N 0)) 3)).alloc (.cells (rowc (List.replicate N 0)) 3)).drew := (((Below.refl _ _).alloc (Nat.le_refl _) _).alloc (by rw [World.size_alloc]; omega) _).drew
      rw [World.size_alloc] at A2'
      have HA := Lib.hid (And.intro A1' (And.intro A2' A3'))
      clear A1' A2' A3'
      go_upto_region 8 with fail
      go_cut [10, 11] from 59 to 64 (fun u10 u11 wx => ∃ Wg Dg : Nat, u10 = .slice (some ⟨Wg, 0, none⟩) N N ∧ u11 = .slice (some ⟨Dg, 0, none⟩) N N ∧ RowT wx Wg N (fun _ => 0) ∧ RowT wx Dg N (fun _ => 0) ∧ Below w6.heap.size w6 wx ∧ w6.heap.size ≤ Wg ∧ w6.heap.size ≤ Dg ∧ Wg ≠ Dg)
      case first =>
        go_region
        all_goals
          go_wp2_with fail
          go_meet
          case rel => first | exact ⟨_, _, rfl, rfl, HA.out.1, HA.out.2.1, HA.out.2.2, by omega, by omega, by omega⟩ | exact ⟨_, _, rfl, rfl, HA.out.2.1, HA.out.1, HA.out.2.2, by omega, by omega, by omega⟩
      case rest =>
        obtain ⟨Wg, Dg, rfl, rfl, hWr, hDr, hb7, o1, o2, ne⟩ := hcut
        clear HA hmk
        first | go_back | go_step
        go_wp2_with fail
        go_loopw [12] (fun i wr => ∃ k : Nat, k ≤ L ∧ i = .int .i64 k ∧ RowT wr Wg N (wF os k) ∧ RowT wr Dg N (dF os k) ∧ Below w6.heap.size w6 wr) (fun i _ => L - (intOf i).toNat)
        case atStart => exact ⟨0, Nat.zero_le _, rfl, hWr, hDr, hb7⟩
        case round =>
          clear hWr hDr hb7
          obtain ⟨k, hk, rfl, hWr, hDr, hbk⟩ := hrel
          by_cases hlt : k < L
          · have hbt : decide ((k : Int) < (L : Int)) = true := by simp; omega
            have hbt2 : (k : Int) < (L : Int) := by omega
            obtain ⟨g, cc, z, e1, hg, hz', x0, x1, x2⟩ := (hO6.later hbk).at_ (i := k) (by rw [← HL.out]; exact hlt)
            rw [← HL.out] at e1
            cases e1
            have hE := HSl.out.each k z hz'
            obtain ⟨j, hj⟩ : ∃ j : Nat, z.job = j := Int.eq_ofNat_of_zero_le hE.1
            rw [hj] at x0 hE
            have hjN : j < N := by omega
            have hjN2 : (j : Int) < (N : Int) := by omega
            obtain ⟨gA, B, mB, cB, e1, hgl, hj', c0, c1', c2, c3, c4, _⟩ := hJ6.both hbk hjN
            subst e1
            have hcm := jat_calm HV.out j
            have cW := hWr.at_ hjN
            have fW := hWr.frozen j
            have lW := hWr.lt
            have cD := hDr.at_ hjN
            have fD := hDr.frozen j
            have lD := hDr.lt
            have w0 := HSl.out.low k j
            have w1' := HSl.out.high k j
            have w2' := HSl.out.high (k + 1) j
            have hsw := fun i => wF_succ hz' i
            have hsd := fun i => dF_succ hz' i
            rw [hsw, hj, if_pos rfl] at w2'
            rw [hj] at hsw hsd
            have hfr0 : 0 ≤ z.fr := by omega
            have hft : z.fr < z.till := hE.2.2.1
            have htl : z.till ≤ 1280000 := hE.2.2.2.2
            have p1 : decide ((j : Int) < 0) = false := by simp
            have p2 : decide ((j : Int) ≥ (N : Int)) = false := decide_eq_false (by omega)
            have p2' : decide (N ≤ j) = false := decide_eq_false (by omega)
            have p3 : decide (z.fr ≥ z.till) = false := decide_eq_false (by omega)
            have p4 : decide (z.fr < (jat js j).rel) = false := decide_eq_false (by omega)
            have hPr : Hid (∀ (q : Nat) (y : Sl), k = q + 1 → os[q]? = some y → y.till ≤ z.fr) := fun q y e hy => HSl.out.apart q y z hy (by rw [← e]; exact hz')
            obtain ⟨wv, hwv⟩ : ∃ wv, wv = wF os k j := ⟨_, rfl⟩
            have HSW := Lib.hid hsw
            have HSD := Lib.hid hsd
            rw [← hwv] at cW w0 w1' w2'
            have HWv := Lib.hid hwv
            obtain ⟨rl, hrl⟩ : ∃ rl, rl = (jat js j).rel := ⟨_, rfl⟩
            rw [← hrl] at c1' p4
            have hw3' : (jat js j).work ≤ 10000 := hcm.2.1
            have hw4' : wv + (z.till - z.fr) ≤ 10000 := by omega
            have hw5' : wv ≤ 10000 := by omega
            obtain ⟨fr, hfr⟩ : ∃ fr, fr = z.fr := ⟨_, rfl⟩
            obtain ⟨tl, htl2⟩ : ∃ tl, tl = z.till := ⟨_, rfl⟩
            rw [← hfr] at x1 p3 p4 hfr0 hft HSW hw4' hPr
            rw [← htl2] at x2 p3 hft htl HSW HSD hw4'
            have HWr := Lib.hid hWr
            have HDr := Lib.hid hDr
            have HBk := Lib.hid hbk
            have HO6 := Lib.hid hO6
            have HHz := Lib.hid hz'
            have ngW : g ≠ Wg := by
              have := (hO6.typ (g := g) rfl).2.1
              omega
            have ngD : g ≠ Dg := by
              have := (hO6.typ (g := g) rfl).2.1
              omega
            clear hE hcm hsw hsd hj hwv hrl c0 c2 c3 c4 hj' hWr hDr hbk hO6 w1' w2' hz' hw3' hgl
            have ne' : Dg ≠ Wg := fun e => ne e.symm
            have HTl := Lib.hid htl2
            have HFr := Lib.hid hfr
            clear htl2 hfr
            by_cases hk0 : k = 0
            · subst hk0
              have p5 : decide (((0 : Nat) : Int) > 0) = false := by decide
              simp only [Nat.zero_mul, Nat.zero_add] at x0 x1 x2
              go_wp2_with fail
              go_quiet (fail)
              go_upto_region 15 with fail
              have hb8 := below_drewN (Below.refl wr.heap.size wr) nq
              revert hb8
              generalize wr.drewN nq = w8
              intro hb8
              clear cW fW lW cD fD lD c1' x0 x1 x2
              have cW := (HWr.out.later hb8).at_ hjN
              have lW := (HWr.out.later hb8).lt
              rw [← HWv.out] at cW
              obtain ⟨g7, cc7, z7, e7, lG, hz7, _, x1, x2⟩ := (HO6.out.later (HBk.out.trans (hb8.mono HBk.out.size))).at_ (i := 0) (by rw [← HL.out]; exact hlt)
              have e11 : g = g7 := by injection e7 with e7; injection e7 with e7; injection e7
              subst e11
              rw [HHz.out] at hz7
              injection hz7 with hz7
              rw [← hz7, ← HFr.out] at x1
              rw [← hz7, ← HTl.out] at x2
              simp only [Nat.zero_mul, Nat.zero_add] at x1 x2
              clear e7 hz7
              have hxl := later_cell (w := w8)
              refine wp_region_later_tail 17 (by kernel_rfl) (by kernel_rfl) ?_
              simp only [List.take_succ_cons, List.take_zero, List.drop_succ_cons, List.drop_zero]
              repeat (go_big_quiet_step (fail))
              refine wpQuiet_nil ?_
              rintro w9 ⟨⟨_, hb9⟩, rfl⟩
              have hb10 := hb8.trans (hb9.mono hb8.size)
              clear hxl cW lW x1 x2
              have hW9 := HWr.out.later hb10
              have hD9 := HDr.out.later hb10
              have cW := hW9.at_ hjN
              rw [← HWv.out] at cW
              have fW := hW9.frozen j
              have lW := hW9.lt
              have fD := hD9.frozen j
              have lD := hD9.lt
              have cD := hD9.at_ hjN
              have hB10 := HBk.out.trans (hb10.mono HBk.out.size)
              obtain ⟨g9, cc9, z9, e9, hg9, hz9, _, _, x2⟩ := (HO6.out.later hB10).at_ (i := 0) (by rw [← HL.out]; exact hlt)
              have e10 : g = g9 := by injection e9 with e9; injection e9 with e9; injection e9
              subst e10
              rw [HHz.out] at hz9
              injection hz9 with hz9
              rw [← hz9, ← HTl.out] at x2
              (try simp only [Nat.zero_mul, Nat.zero_add] at x2)
              have hWn := ((hW9.set_ j (wv + (tl - fr))).far ne (p := ⟨Dg, j, none⟩) (.int .i64 tl)).congr (g := wF os (0 + 1)) (fun i _ _ => by
                rw [HSW.out]
                by_cases e : i = (j : Int)
                · subst e; rw [if_pos rfl, if_pos rfl, HWv.out]
                · rw [if_neg e, if_neg (fun h => e h.symm), Int.add_zero])
              have hDn := ((hD9.far ne' (p := ⟨Wg, j, none⟩) (.int .i64 (wv + (tl - fr)))).set_ j tl).congr (g := dF os (0 + 1)) (fun i _ _ => by
                rw [HSD.out]
                by_cases e : i = (j : Int)
                · subst e; simp
                · rw [if_neg e, if_neg (fun h => e h.symm)])
              have hBn : Below w6.heap.size w6 ((w9.setCell ⟨Wg, j, none⟩ (.int .i64 (wv + (tl - fr)))).setCell ⟨Dg, j, none⟩ (.int .i64 tl)) :=
                hB10.trans (Fix.below (S := fun k => k ≠ Wg ∧ k ≠ Dg) (((Fix.refl _ _).setCell (fun e => e.1 rfl) _).setCell (fun e => e.2 rfl) _) (fun k hk => ⟨fun e => by omega, fun e => by omega⟩))
              have HWn := Lib.hid hWn
              have HDn := Lib.hid hDn
              have HBn := Lib.hid hBn
              clear hWn hDn hBn hW9 hD9 hB10 hb9 hb10 e9 hz9
              go_wp2_with fail
              go_roundw
              case rel => exact ⟨0 + 1, by omega, by first | rfl | go_num, HWn.out, HDn.out, HBn.out⟩
              case measure => simp [intOf]; omega
            · obtain ⟨q, rfl⟩ : ∃ q, k = q + 1 := ⟨k - 1, by omega⟩
              have p5 : decide (((q + 1 : Nat) : Int) > 0) = true := decide_eq_true (by omega)
              have p5' : decide (0 < (q : Int) + 1) = true := decide_eq_true (by omega)
              have en : ((q + 1 : Nat) : Int) - 1 = (q : Int) := by omega
              have en2 : ((q : Int) + 1) - 1 = (q : Int) := by omega
              have eq1 : (q : Int) < (L : Int) := by omega
              have eq2 : (q : Int) + 1 < (L : Int) := by omega
              obtain ⟨g8, cc8, y, e8, _, hy', _, _, y2⟩ := (HO6.out.later HBk.out).at_ (i := q) (by rw [← HL.out]; omega)
              have e10 : g = g8 := by injection e8 with e8; injection e8 with e8; injection e8
              subst e10
              have hyt := hPr.out q y rfl hy'
              have p6 : decide (fr < y.till) = false := decide_eq_false (by omega)
              clear e8 hy' hyt hk0
              go_wp2_with fail
              go_quiet (fail)
              go_upto_region 15 with fail
              have hb8 := below_drewN (Below.refl wr.heap.size wr) nq
              revert hb8
              generalize wr.drewN nq = w8
              intro hb8
              clear cW fW lW cD fD lD c1' x0 x1 x2
              have cW := (HWr.out.later hb8).at_ hjN
              have lW := (HWr.out.later hb8).lt
              rw [← HWv.out] at cW
              obtain ⟨g7, cc7, z7, e7, lG, hz7, _, x1, x2⟩ := (HO6.out.later (HBk.out.trans (hb8.mono HBk.out.size))).at_ (i := (q + 1)) (by rw [← HL.out]; exact hlt)
              have e11 : g = g7 := by injection e7 with e7; injection e7 with e7; injection e7
              subst e11
              rw [HHz.out] at hz7
              injection hz7 with hz7
              rw [← hz7, ← HFr.out] at x1
              rw [← hz7, ← HTl.out] at x2
              clear e7 hz7
              have hxl := later_cell (w := w8)
              refine wp_region_later_tail 17 (by kernel_rfl) (by kernel_rfl) ?_
              simp only [List.take_succ_cons, List.take_zero, List.drop_succ_cons, List.drop_zero]
              repeat (go_big_quiet_step (fail))
              refine wpQuiet_nil ?_
              rintro w9 ⟨⟨_, hb9⟩, rfl⟩
              have hb10 := hb8.trans (hb9.mono hb8.size)
              clear hxl cW lW x1 x2
              have hW9 := HWr.out.later hb10
              have hD9 := HDr.out.later hb10
              have cW := hW9.at_ hjN
              rw [← HWv.out] at cW
              have fW := hW9.frozen j
              have lW := hW9.lt
              have fD := hD9.frozen j
              have lD := hD9.lt
              have cD := hD9.at_ hjN
              have hB10 := HBk.out.trans (hb10.mono HBk.out.size)
              obtain ⟨g9, cc9, z9, e9, hg9, hz9, _, _, x2⟩ := (HO6.out.later hB10).at_ (i := (q + 1)) (by rw [← HL.out]; exact hlt)
              have e10 : g = g9 := by injection e9 with e9; injection e9 with e9; injection e9
              subst e10
              rw [HHz.out] at hz9
              injection hz9 with hz9
              rw [← hz9, ← HTl.out] at x2
              (try simp only [Nat.zero_mul, Nat.zero_add] at x2)
              have hWn := ((hW9.set_ j (wv + (tl - fr))).far ne (p := ⟨Dg, j, none⟩) (.int .i64 tl)).congr (g := wF os ((q + 1) + 1)) (fun i _ _ => by
                rw [HSW.out]
                by_cases e : i = (j : Int)
                · subst e; rw [if_pos rfl, if_pos rfl, HWv.out]
                · rw [if_neg e, if_neg (fun h => e h.symm), Int.add_zero])
              have hDn := ((hD9.far ne' (p := ⟨Wg, j, none⟩) (.int .i64 (wv + (tl - fr)))).set_ j tl).congr (g := dF os ((q + 1) + 1)) (fun i _ _ => by
                rw [HSD.out]
                by_cases e : i = (j : Int)
                · subst e; simp
                · rw [if_neg e, if_neg (fun h => e h.symm)])
              have hBn : Below w6.heap.size w6 ((w9.setCell ⟨Wg, j, none⟩ (.int .i64 (wv + (tl - fr)))).setCell ⟨Dg, j, none⟩ (.int .i64 tl)) :=
                hB10.trans (Fix.below (S := fun k => k ≠ Wg ∧ k ≠ Dg) (((Fix.refl _ _).setCell (fun e => e.1 rfl) _).setCell (fun e => e.2 rfl) _) (fun k hk => ⟨fun e => by omega, fun e => by omega⟩))
              have HWn := Lib.hid hWn
              have HDn := Lib.hid hDn
              have HBn := Lib.hid hBn
              clear hWn hDn hBn hW9 hD9 hB10 hb9 hb10 e9 hz9
              go_wp2_with fail
              go_roundw
              case rel => exact ⟨(q + 1) + 1, by omega, by first | rfl | go_num, HWn.out, HDn.out, HBn.out⟩
              case measure => simp [intOf]; omega
          · obtain rfl : k = L := by omega
            have hbt : decide ((k : Int) < (k : Int)) = false := by simp
            have hWf := hWr.congr (g := fun i => (jat js i).work) (fun i i0 i1 => by
              obtain ⟨j, rfl⟩ := Int.eq_ofNat_of_zero_le i0
              rw [HL.out]
              exact HSl.out.work j (by omega))
            have hDf := hDr.congr (g := fin) (fun i i0 i1 => by
              obtain ⟨j, rfl⟩ := Int.eq_ofNat_of_zero_le i0
              rw [HL.out]
              exact HSl.out.last j (by omega))
            have hJ7 := hJ6.later hbk
            have hw7 := hw6.trans (hbk.mono hw6.size)
            clear hWr hDr hbk hJ6 hO6 hw6 HSl
            have cD := hDf.at_ hN0
            have lD := hDf.lt
            obtain ⟨gA, B, mB, cB, e1, hgl, hj', c0, c1', c2, c3, c4, _⟩ := hJ7.both (Below.refl _ _) hN0
            subst e1
            have hcm := (jat_calm HV.out ((0 : Nat) : Int)).2.2
            have hd0 := hcm.1
            have hd1 := hcm.2.1
            have hf0 := (HFb.out ((0 : Nat) : Int)).1
            have hf1 := (HFb.out ((0 : Nat) : Int)).2
            have hN1 : (0 : Int) < (N : Int) := by omega
            simp only [Nat.zero_mul, Nat.zero_add] at c2
            clear hcm c0 c1' c3 c4 hj'
            obtain ⟨d0, hd0e⟩ : ∃ d0, d0 = (jat js ((0 : Nat) : Int)).due := ⟨_, rfl⟩
            obtain ⟨f0, hf0e⟩ : ∃ f0, f0 = fin ((0 : Nat) : Int) := ⟨_, rfl⟩
            rw [← hd0e] at c2 hd0 hd1
            rw [← hf0e] at cD hf0 hf1
            have H0 : Hid (f0 - d0 = fin ((0 : Nat) : Int) - (jat js ((0 : Nat) : Int)).due) := by show _ = _; rw [hd0e, hf0e]
            have HWf := Lib.hid hWf
            have HDf := Lib.hid hDf
            clear hd0e hf0e hWf hDf
            go_wp2_with fail
            go_quiet (fail)
            go_wp2_with fail
            go_loopw [14, 15] (fun u14 u15 wi => ∃ (i : Nat) (m' : Int), i ≤ N ∧ u15 = .int .i64 i ∧ u14 = .int .i64 m' ∧ Hid ((∃ p : Nat, p < N ∧ m' = fin p - (jat js p).due) ∧ ∀ p : Nat, p < i → fin p - (jat js p).due ≤ m') ∧ Below wr.heap.size wr wi) (fun _ i _ => N - (intOf i).toNat)
            case atStart => exact ⟨0, f0 - d0, Nat.zero_le _, rfl, rfl, ⟨⟨0, hN0, H0.out⟩, fun p hp => by omega⟩, below_drewN (Below.refl _ _) _⟩
            case round =>
              clear H0 cD lD c2 hd0 hd1 hf0 hf1
              obtain ⟨i, m', hi, rfl, rfl, hMx, hbi⟩ := hrel
              by_cases hij : i < N
              · have hbt3 : decide ((i : Int) < (N : Int)) = true := by simp; omega
                have hbt4 : (i : Int) < (N : Int) := by omega
                have cW := (HWf.out.later hbi).at_ hij
                have lW := (HWf.out.later hbi).lt
                have cD := (HDf.out.later hbi).at_ hij
                have lD := (HDf.out.later hbi).lt
                obtain ⟨g', B', mB', cB', e1, hgl', hj', c0, c1', c2, c3, c4, _⟩ := hJ7.both hbi hij
                cases e1
                have hcm := (jat_calm HV.out i).2.2
                have hd0 := hcm.1
                have hd1 := hcm.2.1
                have hf0 := (HFb.out i).1
                have hf1 := (HFb.out i).2
                have n1 := neb_self6 (jat js i).work
                have HB := Lib.hid hbi
                clear hcm c1' c3 c4 hj' hbi
                have HM2 : Hid (∀ m2, m2 = max m' (fin i - (jat js i).due) → (∃ p : Nat, p < N ∧ m2 = fin p - (jat js p).due) ∧ ∀ p : Nat, p < i + 1 → fin p - (jat js p).due ≤ m2) := fun m2 h => by
                  obtain ⟨⟨p, p0, p1⟩, p2⟩ := hMx.out
                  refine ⟨?_, fun r hr => ?_⟩
                  · by_cases g : m' ≤ fin i - (jat js i).due
                    · exact ⟨i, hij, by omega⟩
                    · exact ⟨p, p0, by omega⟩
                  · by_cases e : r = i
                    · subst e; omega
                    · have := p2 r (by omega); omega
                clear hMx
                obtain ⟨du, hdu⟩ : ∃ du, du = (jat js i).due := ⟨_, rfl⟩
                obtain ⟨wk, hwk⟩ : ∃ wk, wk = (jat js i).work := ⟨_, rfl⟩
                obtain ⟨fi, hfi⟩ : ∃ fi, fi = fin i := ⟨_, rfl⟩
                rw [← hwk] at cW c0 n1
                rw [← hfi] at cD hf0 hf1
                rw [← hdu] at c2 hd0 hd1
                have HM3 : Hid (∀ m2, m2 = max m' (fi - du) → (∃ p : Nat, p < N ∧ m2 = fin p - (jat js p).due) ∧ ∀ p : Nat, p < i + 1 → fin p - (jat js p).due ≤ m2) := by rw [hfi, hdu]; exact HM2.out
                clear HM2 hdu hwk hfi
                go_wp2_with fail
                go_quiet (fail)
                go_wp2_with fail
                go_region
                go_wp2_with fail
                go_roundw
                case rel =>
                  exact ⟨i + 1, max m' (fi - du), by omega, by go_num, rfl, HM3.out _ rfl, HB.out.trans ((below_drewN (Below.refl _ _) _).mono HB.out.size)⟩
                case measure => simp [intOf]; omega
              · obtain rfl : i = N := by omega
                have hbt3 : decide ((i : Int) < (i : Int)) = false := by simp
                obtain rfl : m' = m := LateM.uniq (.inr hMx.out) HLm.out
                obtain ⟨h1, h2, h3⟩ := HCr.out
                obtain ⟨i', k', hi', hk', hr, hd, _, _⟩ := HCo.out.some_ h1
                have hci := (jat_calm HV.out i').2.2.2.2
                have hck := (jat_calm HV.out k').2.2
                rw [← hr] at hci
                rw [← hd] at hck
                have D1 := Lib.hid (rCrowd_any (some ⟨gA, 0, none⟩) i c1 js cw.r cw.d wr (hJ7.later hbi) HV.out hci.1 hci.2 hck.1 hck.2.1)
                rw [show cw.r - cw.d + winS js cw.r cw.d i = m' by omega, decide_eq_true h2] at D1
                have n1 := eqb_self6 m'
                have hfin := hw7.trans (hbi.mono hw7.size)
                clear h1 h2 h3 hr hd hci hck hMx
                go_wp2_with fail
                refine D1.out.mono ?_
                rintro e8 w8 ⟨rfl, rfl⟩
                go_wp2_with fail
                go_ret
                exact ⟨rfl, hfin⟩
end Go.Proofs.Ytnfcigbiebbjdaa
