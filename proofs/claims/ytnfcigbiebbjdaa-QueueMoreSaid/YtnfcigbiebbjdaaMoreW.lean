/-
  The walk of the law on a job more.
  No conditions.
-/
import Derived.Test.YtnfcigbiebbjdaaSwsW
import Derived.Test.YtnfcigbiebbjdaaMoreI
import Derived.Test.YtnfcigbiebbjdaaMoreP
import Derived.Test.YtnfcigbiebbjdaaOnT2
import Derived.Deep.AppendLies
import Derived.BigRegion
import Derived.Deep.RegionHeld3
import Derived.Deep.CutBlock
import Derived.Deep.CutRange
import Derived.Outline
namespace Go.Proofs.Ytnfcigbiebbjdaa
open Go.RowKit

set_option maxRecDepth 100000 in
set_option maxHeartbeats 80000000 in
theorem walkMore (A : Option Addr) (n c : Nat) (ja jb jc jd : Int) (ju : Value) (ta tb : Int) (x : List Jb) (w : World) (rA : JobsA w A n x) (hc : n ≤ c) (hnil : A = none → c = 0) :
    Calls Try.prog 15 #[.slice A n c, .agg #[.int .i64 ja, .int .i64 jb, .int .i64 jc, .int .i64 jd, ju], .agg #[.int .i64 ta, .int .i64 tb]] w fun e w' => e = .returned (.bool true) ∧ Below w.heap.size w w' := by
  have hxl : x.length = n := rA.1
  have hfl := few_len6 x n 20 (by omega)
  have hm : ∀ (k : Nat) (j : Jb), ((x.take (fewN n 20)).map cutJ)[k]? = some j → j.after.length ≤ 1000 := fun k j h => cut_after h
  have F2 := fun w' (h : Below w.heap.size w w') => few_own A n c 20 x w' (rA.later h) hc hnil (by omega)
  have hl20 : ((x.take (fewN n 20)).map cutJ).length ≤ 64 → ((x.take (fewN n 20)).map cutJ).length ≤ 20 := by
    rw [List.length_map, List.length_take, hxl]
    unfold fewN
    split <;> omega
  clear rA hnil hxl hc
  generalize (x.take (fewN n 20)).map cutJ = js at *
  obtain ⟨N, hN⟩ : ∃ N, js.length = N := ⟨_, rfl⟩
  rw [hN] at hfl hl20
  have HN := Lib.hid hN
  have HF2 := Lib.hid F2
  have HM := Lib.hid hm
  clear hm F2 hN
  have kL := Blk.new w 43 #[.int .i64 ja, .int .i64 jb, .int .i64 jc, .int .i64 jd, ju]
  have hb1 := (Below.refl w.heap.size w).alloc (Nat.le_refl _) (.cells #[.int .i64 ja, .int .i64 jb, .int .i64 jc, .int .i64 jd, ju] 43)
  have kT := Blk.new (w.alloc (.cells #[.int .i64 ja, .int .i64 jb, .int .i64 jc, .int .i64 jd, ju] 43)) 68 #[.int .i64 ta, .int .i64 tb]
  rw [World.size_alloc] at kT
  have kL2 := kL.later ((Below.refl _ _).alloc (Nat.le_refl _) (.cells #[.int .i64 ta, .int .i64 tb] 68))
  have hb2 := hb1.alloc hb1.size (.cells #[.int .i64 ta, .int .i64 tb] 68)
  obtain ⟨bl, hbl⟩ : ∃ bl, bl = w.heap.size := ⟨_, rfl⟩
  rw [← hbl] at kL2 kT
  have HBl := Lib.hid hbl
  clear kL hb1 hbl
  go_enter Try.func15, Try.ntmps15
  go_upto_region 1 with fail
  rw [← HBl.out]
  revert kL2 kT hb2
  generalize (w.alloc (.cells #[.int .i64 ja, .int .i64 jb, .int .i64 jc, .int .i64 jd, ju] 43)).alloc (.cells #[.int .i64 ta, .int .i64 tb] 68) = w0
  intro hb2 kT kL2
  have M1 := Lib.hid (HF2.out w0 hb2)
  go_wp2_with fail
  refine M1.out.mono ?_
  rintro e1 w1 ⟨A1, c1, rfl, hP1, hb1'⟩
  rw [HN.out] at hP1 ⊢
  have kL3 := kL2.later hb1'
  have kT3 := kT.later hb1'
  have hw1 := hb2.trans (hb1'.mono hb2.size)
  have hblw : bl < w0.heap.size := kL2.lt
  have cL := kL3.cell
  have lL := kL3.lt
  have fL := kL3.frozen 4
  have kL4 : Blk (w1.setCell ⟨bl, 4, none⟩ (.slice none 0 0)) bl 43 #[.int .i64 ja, .int .i64 jb, .int .i64 jc, .int .i64 jd, .slice none 0 0] := by
    have h := kL3.set_ 4 (.slice none 0 0)
    simpa using h
  have kT4 : Blk (w1.setCell ⟨bl, 4, none⟩ (.slice none 0 0)) (bl + 1) 68 #[.int .i64 ta, .int .i64 tb] := kT3.far (by simp) _
  have hP4 := box_far (i := 4) (u := .slice none 0 0) hP1 kL3 hblw
  have hbw : w.heap.size ≤ bl := by rw [HBl.out]; exact Nat.le_refl _
  have hw2 : Below w.heap.size w (w1.setCell ⟨bl, 4, none⟩ (.slice none 0 0)) := hw1.trans (Fix.below (S := fun k => k ≠ bl) ((Fix.refl _ _).setCell (fun e => e rfl) _) (fun k hk e => by omega))
  have HP4 := Lib.hid hP4
  have HKL := Lib.hid kL4
  have HKT := Lib.hid kT4
  have HW2 := Lib.hid hw2
  clear M1 kL2 kT hP1 kL3 kT3 hw1 hb2 hb1' kL4 kT4 hP4 hw2 hblw
  go_upto_region 3 with fail
  clear cL lL fL
  revert HP4 HKL HKT HW2
  generalize w1.setCell ⟨bl, 4, none⟩ (.slice none 0 0) = w2
  intro HP4 HKL HKT HW2
  go_cut [8] from 33 to 37 (fun u8 wx => ∃ (A3 : Option Addr) (c3 : Nat), u8 = .slice A3 (N + 1) c3 ∧ FewP wx w2.heap.size A3 (N + 1) c3 (js ++ [⟨ja, jb, jc, jd, []⟩]) ∧ Below w2.heap.size w2 wx)
  case first =>
    have cL := HKL.out.cell
    have lL := HKL.out.lt
    obtain ⟨i0, hi, hz0, hz1, hz2⟩ := info_parts info43
    have HI := Lib.hid (And.intro hi (And.intro hz0 (And.intro hz1 hz2)))
    clear hi hz0 hz1 hz2
    have hnw : ∀ (V : World), ∀ j u, (jcells ⟨ja, jb, jc, jd, []⟩ (.slice none 0 0))[j]? = some u → (V.alloc (.cells #[.int .i64 ja, .int .i64 jb, .int .i64 jc, .int .i64 jd, .slice none 0 0] 43)).cell? ((⟨V.heap.size, 0, none⟩ : Addr).add j) = some u := fun V j u hj => by
      have := (Blk.new V 43 #[.int .i64 ja, .int .i64 jb, .int .i64 jc, .int .i64 jd, .slice none 0 0]).cell j
      rw [Addr.add_lit, Nat.zero_add, this, ← hj, List.getElem?_toArray]
      rfl
    have HNW := Lib.hid hnw
    clear hnw
    refine wp_region_held_drew (S := fun V => Below w2.heap.size w2 V) (by kernel_rfl) ((Below.refl _ _).drew) (fun hHeld => ?_)
    refine wpAnyH_take (i := 0) (v := ?_) rfl (by kernel_rfl) (by kernel_rfl) (by kernel_rfl) (fun _ _ _ h => h) (Or.inl ⟨by rfl, ?hy⟩) (by assumption) ?_
    case hy => (intro w hSw; have hcw : ∀ p o, p < w2.heap.size → w.cell? ⟨p, o, none⟩ = w2.cell? ⟨p, o, none⟩ := (fun p o h => hSw.cell (p := ⟨p, o, none⟩) h); clear hSw; go_simp; try with_reducible rfl)
    refine wpAnyH_take (i := 2) (v := ?_) rfl (by kernel_rfl) (by kernel_rfl) (by kernel_rfl) (fun _ _ _ h => h) (Or.inl ⟨by rfl, ?hy⟩) (by assumption) ?_
    case hy => (intro w hSw; have hcw : ∀ p o, p < w2.heap.size → w.cell? ⟨p, o, none⟩ = w2.cell? ⟨p, o, none⟩ := (fun p o h => hSw.cell (p := ⟨p, o, none⟩) h); clear hSw; go_simp; try with_reducible rfl)
    clear cL
    simp only [Act.put, List.setIfInBounds_toArray]
    refine wpAnyH_ready (rs := [1, 3]) (by kernel_rfl) (by simp) (AllReadyH.cons rfl (fun K hK => ?p1) (AllReadyH.cons rfl (fun K hK => ?p2) AllReadyH.nil))
    case p1 =>
      go_simp
      refine (HF2.out w2.drew HW2.out.drew).mono ?_
      rintro e w3 ⟨A2, c2, rfl, ⟨vs, hown0, haft0⟩, hb3⟩
      have hb4 := hHeld.trans (hb3.mono hHeld.size)
      rw [HN.out] at hown0 ⊢
      refine hK.out _ _ hb4 (fun _ => ?_)
      clear hK K
      refine wpAnyH_ready (rs := [3]) (by kernel_rfl) (by simp) (AllReadyH.cons rfl (fun K hK => ?_) AllReadyH.nil)
      go_simp
      have hb5 := hb4.alloc hb4.size (.cells #[.int .i64 ja, .int .i64 jb, .int .i64 jc, .int .i64 jd, .slice none 0 0] 43)
      refine hK.out _ _ hb5 (fun _ => ?_)
      clear hK K
      have hba := (Below.refl w3.heap.size w3).alloc (Nat.le_refl _) (.cells #[.int .i64 ja, .int .i64 jb, .int .i64 jc, .int .i64 jd, .slice none 0 0] 43)
      have hown := own_later hown0 hba
      have haft := haft0.mono (fun v l h => h.later hba)
      have hsz := hb5.size
      have hnews := HNW.out w3
      refine wpAnyH_ready (rs := [4]) (by kernel_rfl) (by simp) (AllReadyH.cons rfl (fun K hK => ?_) AllReadyH.nil)
      refine step_append_lies _ rfl (.tmp 34) (.tmp 36) 22 rfl w2.heap.size 43 i0 _ 5 56 Try.underlying22 HI.out.1 HI.out.2.1 HI.out.2.2.1 HI.out.2.2.2 rfl (by decide) (.slice A2 N c2) N _ rfl hown ⟨w3.heap.size, 0, none⟩ 1 1 (jcells ⟨ja, jb, jc, jd, []⟩ (.slice none 0 0)) rfl rfl hnews (by simp [jcells, Value.oneCell']) (by omega) (by unfold maxLen; omega) (by omega) hsz _ rfl ?_
      intro g cap w5 hown5 hgr5 hat5 _
      have hfin := few_snoc hown haft hown5 hgr5 rfl
      have hb6 := hb5.grown hgr5 hb5.size (fun q hq => (hown.lt q hq).1)
      refine hK.out _ _ hb6 (fun hHeld2 => ?_)
      clear hK K
      refine wpAnyH_ready (rs := [5]) (by kernel_rfl) (by simp) (AllReadyH.cons rfl (fun K hK => ?_) AllReadyH.nil)
      go_simp
      refine hK.out _ _ hHeld2 (fun _ => ?_)
      clear hK K
      refine wpAnyH_done (by kernel_rfl) ?_ _
      go_wp2_with fail
      go_meet
      case rel => exact ⟨_, _, rfl, hfin, hb6⟩
    case p2 =>
      go_simp
      have hb3 := hHeld.alloc hHeld.size (.cells #[.int .i64 ja, .int .i64 jb, .int .i64 jc, .int .i64 jd, .slice none 0 0] 43)
      have hbd := HW2.out.drew.alloc HW2.out.drew.size (.cells #[.int .i64 ja, .int .i64 jb, .int .i64 jc, .int .i64 jd, .slice none 0 0] 43)
      refine hK.out _ _ hb3 (fun _ => ?_)
      clear hK K
      have hnw2 := HNW.out w2.drew
      refine wpAnyH_ready (rs := [1]) (by kernel_rfl) (by simp) (AllReadyH.cons rfl (fun K hK => ?_) AllReadyH.nil)
      go_simp
      refine (HF2.out _ hbd).mono ?_
      rintro e w3 ⟨A2, c2, rfl, ⟨vs, hown0, haft⟩, hb4⟩
      have hown := World.ownsRow.mono hown0 hb3.size
      rw [HN.out] at hown ⊢
      have hb5 := hb3.trans (hb4.mono hb3.size)
      refine hK.out _ _ hb5 (fun _ => ?_)
      clear hK K
      have hsz := hb5.size
      have hnews : ∀ j u, (jcells ⟨ja, jb, jc, jd, []⟩ (.slice none 0 0))[j]? = some u → w3.cell? ((⟨w2.drew.heap.size, 0, none⟩ : Addr).add j) = some u := fun j u hj => by
        rw [hb4.cell (p := (⟨w2.drew.heap.size, 0, none⟩ : Addr).add j) (by rw [add_block, World.size_alloc]; exact Nat.lt_succ_self _)]
        exact hnw2 j u hj
      refine wpAnyH_ready (rs := [4]) (by kernel_rfl) (by simp) (AllReadyH.cons rfl (fun K hK => ?_) AllReadyH.nil)
      refine step_append_lies _ rfl (.tmp 34) (.tmp 36) 22 rfl w2.heap.size 43 i0 _ 5 56 Try.underlying22 HI.out.1 HI.out.2.1 HI.out.2.2.1 HI.out.2.2.2 rfl (by decide) (.slice A2 N c2) N _ rfl hown ⟨w2.drew.heap.size, 0, none⟩ 1 1 (jcells ⟨ja, jb, jc, jd, []⟩ (.slice none 0 0)) rfl rfl hnews (by simp [jcells, Value.oneCell']) (by omega) (by unfold maxLen; omega) (by omega) hsz _ rfl ?_
      intro g cap w5 hown5 hgr5 hat5 _
      have hfin := few_snoc hown haft hown5 hgr5 rfl
      have hb6 := hb5.grown hgr5 hb5.size (fun q hq => (hown.lt q hq).1)
      refine hK.out _ _ hb6 (fun hHeld2 => ?_)
      clear hK K
      refine wpAnyH_ready (rs := [5]) (by kernel_rfl) (by simp) (AllReadyH.cons rfl (fun K hK => ?_) AllReadyH.nil)
      go_simp
      refine hK.out _ _ hHeld2 (fun _ => ?_)
      clear hK K
      refine wpAnyH_done (by kernel_rfl) ?_ _
      go_wp2_with fail
      go_meet
      case rel => exact ⟨_, _, rfl, hfin, hb6⟩
  case rest =>
    obtain ⟨A3, c3, rfl, hP3, hb3⟩ := hcut
    have hw3 := HW2.out.trans (hb3.mono HW2.out.size)
    have hJ3 := (HP4.out.jobs HN.out).later hb3
    have hJM := hP3.jobs (n := N + 1) (by rw [List.length_append, HN.out]; rfl)
    have hT3 := HKT.out.later hb3
    have HMM : Hid (∀ (k : Nat) (j : Jb), (js ++ [⟨ja, jb, jc, jd, []⟩])[k]? = some j → j.after.length ≤ 1000) := fun k j hk => by
      by_cases hl : k < js.length
      · rw [List.getElem?_append_left hl] at hk
        exact HM.out k j hk
      · rw [List.getElem?_append_right (by omega)] at hk
        have hz : k - js.length = 0 := by
          have := (List.getElem?_eq_some_iff.1 hk).1
          simp at this
          omega
        rw [hz] at hk
        simp only [List.getElem?_cons_zero, Option.some.injEq] at hk
        subst hk
        exact Nat.zero_le _
    obtain ⟨jm, hjm⟩ : ∃ jm, jm = js ++ [⟨ja, jb, jc, jd, []⟩] := ⟨_, rfl⟩
    rw [← hjm] at hJM HMM
    have HJm := Lib.hid hjm
    clear hP3 hb3 HP4 HKL HKT HW2 HF2 hjm
    have V1 := Lib.hid (fun V (h : JobsH V A1 N js) => Valid_any A1 N c1 js V h HM.out)
    have V2 := Lib.hid (fun V (h : JobsH V A3 (N + 1) jm) => Valid_any A3 (N + 1) c3 jm V h HMM.out)
    first | go_back | go_step
    by_cases hv : validB js = true
    case neg =>
      rw [Bool.not_eq_true] at hv
      have V3 := V1.out _ hJ3
      rw [hv] at V3
      have HV3 := Lib.hid V3
      clear V1 V2 V3 hJ3 hJM hT3
      go_wp2_with fail
      refine HV3.out.mono ?_
      rintro e4 w4 ⟨rfl, hb4⟩
      have hw4 := hw3.trans (hb4.mono hw3.size)
      clear HV3 hw3 hb4
      go_wp2_with fail
      refine (lives_any _).mono ?_
      rintro e5 w5 ⟨rfl, hb5⟩
      have hfin := hw4.trans (hb5.mono hw4.size)
      go_wp2_with fail
      go_ret
      exact ⟨rfl, hfin⟩
    case pos =>
      have V3 := V1.out _ hJ3
      rw [hv] at V3
      have HV := Lib.hid hv
      have HV3 := Lib.hid V3
      have hN20 : N ≤ 20 := hl20 (by have h := hv; unfold validB at h; simp only [Bool.and_eq_true, decide_eq_true_eq] at h; rw [← HN.out]; exact h.1)
      clear V1 V3 hv hl20
      go_wp2_with fail
      refine HV3.out.mono ?_
      rintro e4 w4 ⟨rfl, hb4⟩
      have hw4 := hw3.trans (hb4.mono hw3.size)
      have hJ4 := hJ3.later hb4
      have hJM4 := hJM.later hb4
      have hT4 := hT3.later hb4
      have V4 := V2.out _ hJM4
      clear HV3 hw3 hb4 hJ3 hJM hT3 V2
      by_cases hv2 : validB jm = true
      case neg =>
        rw [Bool.not_eq_true] at hv2
        rw [hv2] at V4
        have HV4 := Lib.hid V4
        clear V4 hJ4 hJM4 hT4
        go_wp2_with fail
        refine HV4.out.mono ?_
        rintro e5 w5 ⟨rfl, hb5⟩
        have hw5 := hw4.trans (hb5.mono hw4.size)
        clear HV4 hw4 hb5
        go_wp2_with fail
        refine (lives_any _).mono ?_
        rintro e6 w6 ⟨rfl, hb6⟩
        have hfin := hw5.trans (hb6.mono hw5.size)
        go_wp2_with fail
        go_ret
        exact ⟨rfl, hfin⟩
      case pos =>
        rw [hv2] at V4
        have HV2 := Lib.hid hv2
        have HV4 := Lib.hid V4
        have f20 : decide ((N : Int) > 20) = false := decide_eq_false (by omega)
        clear V4 hv2
        go_wp2_with fail
        refine HV4.out.mono ?_
        rintro e5 w5 ⟨rfl, hb5⟩
        have hw5 := hw4.trans (hb5.mono hw4.size)
        have hJ5 := hJ4.later hb5
        have hJM5 := hJM4.later hb5
        have hT5 := hT4.later hb5
        have S1 := Lib.hid (Sweep_yes A1 N c1 js w5 hJ5 HV.out)
        clear HV4 hw4 hb5 hJ4 hJM4 hT4
        go_wp2_with fail
        refine S1.out.mono ?_
        rintro e6 w6 ⟨v1, s1, m1, rfl, hR1, hD1, hL1, _, hb6⟩
        have hw6 := hw5.trans (hb6.mono hw5.size)
        have hJ6 := hJ5.later hb6
        have hJM6 := hJM5.later hb6
        have hT6 := hT5.later hb6
        have S2 := Lib.hid (Sweep_yes A3 (N + 1) c3 jm w6 hJM6 HV2.out)
        have HR1 := Lib.hid hR1
        have HD1 := Lib.hid hD1
        have HL1 := Lib.hid hL1
        clear S1 hw5 hb6 hJ5 hJM5 hT5 hR1 hD1 hL1
        go_wp2_with fail
        refine S2.out.mono ?_
        rintro e7 w7 ⟨v2, s2, m2, rfl, hR2, hD2, hL2, _, hb7⟩
        have HSw : Hid (0 < N → m1 ≤ m2) := fun h => by
          have e := HJm.out
          subst e
          exact sweep_more HN.out HV.out HV2.out h HR1.out HD1.out HL1.out hR2 hD2 hL2
        have hw7 := hw6.trans (hb7.mono hw6.size)
        have hJ7 := hJ6.later hb7
        have hJM7 := hJM6.later hb7
        have hT7 := hT6.later hb7
        have O1 := Lib.hid (OnTime_yes A1 N c1 js w7 hJ7 HV.out)
        clear S2 hw6 hb7 hJ6 hJM6 hT6 hR2 hD2 hL2 HR1 HD1 HL1
        go_wp2_with fail
        refine O1.out.mono ?_
        rintro e8 w8 ⟨B1, q1, d1, o1, rfl, hq1, hr1, ha1, ht1, hb8⟩
        have Hq1 := Lib.hid hq1.1
        have Hr1 := Lib.hid hr1
        have Ha1 := Lib.hid ha1
        have Ht1 := Lib.hid ht1
        have hw8 := hw7.trans (hb8.mono hw7.size)
        have hJ8 := hJ7.later hb8
        have hJM8 := hJM7.later hb8
        have hT8 := hT7.later hb8
        have O2 := Lib.hid (OnTime_yes A3 (N + 1) c3 jm w8 hJM8 HV2.out)
        clear O1 hw7 hb8 hJ7 hJM7 hT7 hq1 hr1 ha1 ht1
        go_wp2_with fail
        refine O2.out.mono ?_
        rintro e9 w9 ⟨B2, q2, d2, o2, rfl, hq2, hr2, ha2, ht2, hb9⟩
        have hot : q1 ≤ q2 ∧ q2 ≤ q1 + 1 := by
          have e := HJm.out
          subst e
          exact ontime_more HN.out (validB_fair HV2.out) Hr1.out Ha1.out Hq1.out Ht1.out hr2 ha2 hq2.1 ht2
        have hw9 := hw8.trans (hb9.mono hw8.size)
        have hJ9 := hJ8.later hb9
        have hT9 := hT8.later hb9
        have hq20 : q1 ≤ 64 := by
          have h1 := short_of_nodup N o1 (Hr1.out.2.imp fun {x y} h e => by omega) Hr1.out.1
          have := Hq1.out
          omega
        obtain ⟨ot1, ot2⟩ := hot
        have g1 : decide ((q1 : Int) > (q2 : Int)) = false := decide_eq_false (by omega)
        have g1' : decide (q2 < q1) = false := decide_eq_false (by omega)
        have g2 : decide ((q2 : Int) > (q1 : Int) + 1) = false := decide_eq_false (by omega)
        clear O2 hw8 hb9 hJ8 hJM8 hT8 hq2 hr2 ha2 ht2 Hr1 Ha1 Ht1 Hq1
        have hgo : (decide ((N : Int) > 0) = true ∧ decide (0 < N) = true ∧ decide (m1 > m2) = false) ∨ (N = 0) := by
          by_cases h0 : N = 0
          · exact .inr h0
          · exact .inl ⟨decide_eq_true (by omega), decide_eq_true (by omega), decide_eq_false (by have := HSw.out (by omega); omega)⟩
        go_upto_region 10 with fail
        go_cut [114] from 76 to 113 (fun u114 wx => u114 = .bool false ∧ Below w9.heap.size w9 wx)
        case first =>
          rcases hgo with ⟨x1, x1', x2⟩ | h0
          · go_wp2_with fail
            refine (lives_any _).mono ?_
            rintro e10 w10 ⟨rfl, hb10⟩
            go_wp2_with fail
            go_meet
            case rel => exact ⟨rfl, hb10⟩
          · subst h0
            have x1 : decide (((0 : Nat) : Int) > 0) = false := by decide
            go_wp2_with fail
            refine (lives_any _).mono ?_
            rintro e10 w10 ⟨rfl, hb10⟩
            go_wp2_with fail
            go_meet
            case rel => exact ⟨rfl, hb10⟩
        case rest =>
          obtain ⟨rfl, hb10⟩ := hcut
          have hw10 := hw9.trans (hb10.mono hw9.size)
          have hJ10 := hJ9.later hb10
          have hT10 := hT9.later hb10
          clear hw9 hJ9 hT9 hb10 hgo ot1 ot2 g1 g1' g2 hq20 HSw
          first | go_back | go_step
          have hR0 : ∀ V : World, RowsB V ((V.alloc (.cells #[] 3)).alloc (.cells #[] 3)) 0 0 (.slice (some ⟨V.heap.size, 0, none⟩) 0 0) (.slice (some ⟨V.heap.size + 1, 0, none⟩) 0 0) [] [] := fun V => by
            have h0 : Below V.heap.size V (V.alloc (.cells #[] 3)) := (Below.refl _ _).alloc (Nat.le_refl _) _
            refine ⟨?_, ?_, fun g hg => ?_, h0.alloc h0.size _⟩
            · exact (World.ownsRow_made (base := V.heap.size) (e := 3) (size := 1) V #[] 0 (by simp) (by unfold maxLen; omega) (by simp)).alloc _
            · have h := World.ownsRow_made (base := V.heap.size) (e := 3) (size := 1) (V.alloc (.cells #[] 3)) #[] 0 (by simp) (by unfold maxLen; omega) (by simp)
              rw [World.size_alloc] at h
              exact h
            · intro he
              simp [Value.ownBlock] at hg he
              omega
          have HR0 := Lib.hid hR0
          clear hR0
          go_wp2_with fail
          have hRW := HR0.out wc
          clear HR0
          go_loopw [21, 22, 23] (fun u21 u22 u23 wr => ∃ (k : Nat) (f s : List Int), k ≤ N ∧ u23 = .int .i64 k ∧ RowsB wc wr k k u21 u22 f s ∧ (∀ x ∈ f, 0 ≤ x ∧ x ≤ 10000) ∧ (∀ x ∈ s, 0 ≤ x ∧ x ≤ 10000)) (fun _ _ i _ => N - (intOf i).toNat)
          case atStart => exact ⟨0, [], [], Nat.zero_le _, rfl, hRW, by simp, by simp⟩
          case round =>
            clear hRW
            obtain ⟨k, f, s, hk, rfl, hR, bf, bs⟩ := hrel
            obtain ⟨va, hva⟩ : ∃ v, v = u21 := ⟨_, rfl⟩
            subst hva
            obtain ⟨vb, hvb⟩ : ∃ v, v = u22 := ⟨_, rfl⟩
            subst hvb
            by_cases hlt : k < N
            · have hbt : decide ((k : Int) < (N : Int)) = true := by simp; omega
              have hbt2 : (k : Int) < (N : Int) := by omega
              obtain ⟨gA, j, e1, hgl, hj, c0, _, _, c3, _⟩ := hJ10.at_ hlt
              subst e1
              have hjb : 0 ≤ j.work ∧ j.work ≤ 10000 ∧ 0 ≤ j.wt ∧ j.wt ≤ 10000 := by
                have h := HV.out
                unfold validB at h
                simp only [Bool.and_eq_true] at h
                have h2 := allB_step hj h.2
                unfold jobB at h2
                simp only [Bool.and_eq_true, decide_eq_true_eq] at h2
                omega
              obtain ⟨xw, hxw⟩ : ∃ xw, xw = j.work := ⟨_, rfl⟩
              obtain ⟨yw, hyw⟩ : ∃ yw, yw = j.wt := ⟨_, rfl⟩
              rw [← hxw] at c0 hjb
              rw [← hyw] at c3 hjb
              have NX := Lib.hid (all_more bf hjb.1 hjb.2.1)
              have NY := Lib.hid (all_more bs hjb.2.2.1 hjb.2.2.2)
              clear hxw hyw hj hjb bf bs
              go_upto_block 1 with fail
              go_cut [21, 22] from 123 to 138 (fun u21 u22 wx => RowsB wc wx (k + 1) (k + 1) u21 u22 (f ++ [xw]) (s ++ [yw]))
              case first =>
                clear NX NY
                go_upto_region 16 with fail
                have R := hR.drew
                clear hR
                refine wp_region_held_drew (S := fun V => Below wc.heap.size wc V) (by kernel_rfl) R.hb (fun hHeld => ?_)
                refine wpAnyH_take (i := 0) (v := ?_) rfl (by kernel_rfl) (by kernel_rfl) (by kernel_rfl) (fun _ _ _ h => h) (Or.inl ⟨by rfl, ?hy⟩) (by assumption) ?_
                case hy => (intro w hSw; have hcw : ∀ p o, p < wc.heap.size → w.cell? ⟨p, o, none⟩ = wc.cell? ⟨p, o, none⟩ := (fun p o h => hSw.cell (p := ⟨p, o, none⟩) h); clear hSw; go_simp; try with_reducible rfl)
                refine wpAnyH_take (i := 1) (v := ?_) rfl (by kernel_rfl) (by kernel_rfl) (by kernel_rfl) (fun _ _ _ h => h) (Or.inl ⟨by rfl, ?hy⟩) (by assumption) ?_
                case hy => (intro w hSw; have hcw : ∀ p o, p < wc.heap.size → w.cell? ⟨p, o, none⟩ = wc.cell? ⟨p, o, none⟩ := (fun p o h => hSw.cell (p := ⟨p, o, none⟩) h); clear hSw; go_simp; try with_reducible rfl)
                refine wpAnyH_take (i := 2) (v := ?_) rfl (by kernel_rfl) (by kernel_rfl) (by kernel_rfl) (fun _ _ _ h => h) (Or.inl ⟨by rfl, ?hy⟩) (by assumption) ?_
                case hy => (intro w hSw; have hcw : ∀ p o, p < wc.heap.size → w.cell? ⟨p, o, none⟩ = wc.cell? ⟨p, o, none⟩ := (fun p o h => hSw.cell (p := ⟨p, o, none⟩) h); clear hSw; go_simp; try with_reducible rfl)
                refine wpAnyH_take (i := 3) (v := ?_) rfl (by kernel_rfl) (by kernel_rfl) (by kernel_rfl) (fun _ _ _ h => h) (Or.inl ⟨by rfl, ?hy⟩) (by assumption) ?_
                case hy => (intro w hSw; have hcw : ∀ p o, p < wc.heap.size → w.cell? ⟨p, o, none⟩ = wc.cell? ⟨p, o, none⟩ := (fun p o h => hSw.cell (p := ⟨p, o, none⟩) h); clear hSw; go_simp; try with_reducible rfl)
                refine wpAnyH_take (i := 4) (v := ?_) rfl (by kernel_rfl) (by kernel_rfl) (by kernel_rfl) (fun _ _ _ h => h) (Or.inl ⟨by rfl, ?hy⟩) (by assumption) ?_
                case hy => (intro w hSw; have hcw : ∀ p o, p < wc.heap.size → w.cell? ⟨p, o, none⟩ = wc.cell? ⟨p, o, none⟩ := (fun p o h => hSw.cell (p := ⟨p, o, none⟩) h); clear hSw; go_simp; try with_reducible rfl)
                refine wpAnyH_take (i := 5) (v := ?_) rfl (by kernel_rfl) (by kernel_rfl) (by kernel_rfl) (fun _ _ _ h => h) (Or.inl ⟨by rfl, ?hy⟩) (by assumption) ?_
                case hy => (intro w hSw; have hcw : ∀ p o, p < wc.heap.size → w.cell? ⟨p, o, none⟩ = wc.cell? ⟨p, o, none⟩ := (fun p o h => hSw.cell (p := ⟨p, o, none⟩) h); clear hSw; go_simp; try with_reducible rfl)
                refine wpAnyH_take (i := 8) (v := ?_) rfl (by kernel_rfl) (by kernel_rfl) (by kernel_rfl) (fun _ _ _ h => h) (Or.inl ⟨by rfl, ?hy⟩) (by assumption) ?_
                case hy => (intro w hSw; have hcw : ∀ p o, p < wc.heap.size → w.cell? ⟨p, o, none⟩ = wc.cell? ⟨p, o, none⟩ := (fun p o h => hSw.cell (p := ⟨p, o, none⟩) h); clear hSw; go_simp; try with_reducible rfl)
                refine wpAnyH_take (i := 9) (v := ?_) rfl (by kernel_rfl) (by kernel_rfl) (by kernel_rfl) (fun _ _ _ h => h) (Or.inl ⟨by rfl, ?hy⟩) (by assumption) ?_
                case hy => (intro w hSw; have hcw : ∀ p o, p < wc.heap.size → w.cell? ⟨p, o, none⟩ = wc.cell? ⟨p, o, none⟩ := (fun p o h => hSw.cell (p := ⟨p, o, none⟩) h); clear hSw; go_simp; try with_reducible rfl)
                refine wpAnyH_take (i := 10) (v := ?_) rfl (by kernel_rfl) (by kernel_rfl) (by kernel_rfl) (fun _ _ _ h => h) (Or.inl ⟨by rfl, ?hy⟩) (by assumption) ?_
                case hy => (intro w hSw; have hcw : ∀ p o, p < wc.heap.size → w.cell? ⟨p, o, none⟩ = wc.cell? ⟨p, o, none⟩ := (fun p o h => hSw.cell (p := ⟨p, o, none⟩) h); clear hSw; go_simp; try with_reducible rfl)
                refine wpAnyH_take (i := 11) (v := ?_) rfl (by kernel_rfl) (by kernel_rfl) (by kernel_rfl) (fun _ _ _ h => h) (Or.inl ⟨by rfl, ?hy⟩) (by assumption) ?_
                case hy => (intro w hSw; have hcw : ∀ p o, p < wc.heap.size → w.cell? ⟨p, o, none⟩ = wc.cell? ⟨p, o, none⟩ := (fun p o h => hSw.cell (p := ⟨p, o, none⟩) h); clear hSw; go_simp; try with_reducible rfl)
                refine wpAnyH_take (i := 12) (v := ?_) rfl (by kernel_rfl) (by kernel_rfl) (by kernel_rfl) (fun _ _ _ h => h) (Or.inl ⟨by rfl, ?hy⟩) (by assumption) ?_
                case hy => (intro w hSw; have hcw : ∀ p o, p < wc.heap.size → w.cell? ⟨p, o, none⟩ = wc.cell? ⟨p, o, none⟩ := (fun p o h => hSw.cell (p := ⟨p, o, none⟩) h); clear hSw; go_simp; try with_reducible rfl)
                refine wpAnyH_take (i := 13) (v := ?_) rfl (by kernel_rfl) (by kernel_rfl) (by kernel_rfl) (fun _ _ _ h => h) (Or.inl ⟨by rfl, ?hy⟩) (by assumption) ?_
                case hy => (intro w hSw; have hcw : ∀ p o, p < wc.heap.size → w.cell? ⟨p, o, none⟩ = wc.cell? ⟨p, o, none⟩ := (fun p o h => hSw.cell (p := ⟨p, o, none⟩) h); clear hSw; go_simp; try with_reducible rfl)
                simp only [Act.put, List.setIfInBounds_toArray]
                obtain ⟨i0, hi, hz0, hz1, hz2⟩ := info_parts info3
                have HI := Lib.hid (And.intro hi (And.intro hz0 (And.intro hz1 hz2)))
                have hone : ∀ (q : Int), ∀ u ∈ [Value.int .i64 q], u.oneCell' = true := fun q u hu => by
                  obtain rfl : u = .int .i64 q := by simpa using hu
                  rfl
                have HONE := Lib.hid hone
                clear hi hz0 hz1 hz2 hone c0 c3 hHeld
                revert R
                generalize wr.drew = V0
                intro R
                refine wpAnyH_ready (rs := [6, 14]) (by kernel_rfl) (by simp) (AllReadyH.cons rfl (fun K hK => ?q10) (AllReadyH.cons rfl (fun K hK => ?q11) AllReadyH.nil))
                case q10 =>
                  go_simp
                  have hbd := R.build xw
                  refine hK.out _ _ hbd.1.hb (fun _ => ?_)
                  clear hK K
                  obtain ⟨b1, hbe⟩ : ∃ b, b = V0.heap.size := ⟨_, rfl⟩
                  rw [← hbe] at hbd ⊢
                  clear hbe
                  obtain ⟨R', S1⟩ := hbd
                  clear R
                  revert R' S1
                  generalize V0.alloc (.cells #[.int .i64 xw] 3) = V2
                  intro R S1
                  refine wpAnyH_ready (rs := [7, 14]) (by kernel_rfl) (by simp) (AllReadyH.cons rfl (fun K hK => ?q30) (AllReadyH.cons rfl (fun K hK => ?q31) AllReadyH.nil))
                  case q30 =>
                    refine step_append_lies _ rfl (.tmp 123) (.tmp 129) 23 rfl wc.heap.size 3 i0 (.int .i64 0) 1 8 Try.underlying23 HI.out.1 HI.out.2.1 HI.out.2.2.1 HI.out.2.2.2 rfl (by decide) va k _ rfl R.hf ⟨b1, 0, none⟩ 1 1 [.int .i64 xw] rfl rfl S1.news (HONE.out _) (by omega) (by unfold maxLen; omega) (by omega) R.size _ rfl ?_
                    intro g4 cap4 V4 hown4 hgr4 hat4 _
                    have R' := R.app1 hown4 hgr4 hat4
                    refine hK.out _ _ R'.hb (fun _ => ?_)
                    clear hK K
                    clear R S1 hown4 hgr4 hat4
                    have R := R'
                    clear R'
                    refine wpAnyH_ready (rs := [14]) (by kernel_rfl) (by simp) (AllReadyH.cons rfl (fun K hK => ?_) AllReadyH.nil)
                    go_simp
                    have hbd := R.build yw
                    refine hK.out _ _ hbd.1.hb (fun _ => ?_)
                    clear hK K
                    obtain ⟨b2, hbe⟩ : ∃ b, b = V4.heap.size := ⟨_, rfl⟩
                    rw [← hbe] at hbd ⊢
                    clear hbe
                    obtain ⟨R', S2⟩ := hbd
                    clear R
                    revert R' S2
                    generalize V4.alloc (.cells #[.int .i64 yw] 3) = V5
                    intro R S2
                    refine wpAnyH_ready (rs := [15]) (by kernel_rfl) (by simp) (AllReadyH.cons rfl (fun K hK => ?_) AllReadyH.nil)
                    refine step_append_lies _ rfl (.tmp 131) (.tmp 137) 23 rfl wc.heap.size 3 i0 (.int .i64 0) 1 8 Try.underlying23 HI.out.1 HI.out.2.1 HI.out.2.2.1 HI.out.2.2.2 rfl (by decide) vb k _ rfl R.hs ⟨b2, 0, none⟩ 1 1 [.int .i64 yw] rfl rfl S2.news (HONE.out _) (by omega) (by unfold maxLen; omega) (by omega) R.size _ rfl ?_
                    intro g6 cap6 V6 hown6 hgr6 hat6 _
                    have R' := R.app2 hown6 hgr6 hat6
                    refine hK.out _ _ R'.hb (fun _ => ?_)
                    clear hK K
                    clear R S2 hown6 hgr6 hat6
                    have R := R'
                    clear R'
                    refine wpAnyH_ready (rs := [16]) (by kernel_rfl) (by simp) (AllReadyH.cons rfl (fun K hK => ?_) AllReadyH.nil)
                    go_simp
                    refine hK.out _ _ R.hb (fun _ => ?_)
                    clear hK K
                    refine wpAnyH_ready (rs := [17]) (by kernel_rfl) (by simp) (AllReadyH.cons rfl (fun K hK => ?_) AllReadyH.nil)
                    go_simp
                    refine hK.out _ _ R.hb (fun _ => ?_)
                    clear hK K
                    refine wpAnyH_done (by kernel_rfl) ?_ _
                    clear HI HONE
                    go_wp2_with fail
                    go_meet
                    case rel => exact R

                  case q31 =>
                    go_simp
                    have hbd := R.build yw
                    refine hK.out _ _ hbd.1.hb (fun _ => ?_)
                    clear hK K
                    obtain ⟨b2, hbe⟩ : ∃ b, b = V2.heap.size := ⟨_, rfl⟩
                    rw [← hbe] at hbd ⊢
                    clear hbe
                    obtain ⟨R', S2⟩ := hbd
                    have S1' := S1.build (.cells #[.int .i64 yw] 3)
                    clear S1
                    clear R
                    revert R' S2 S1'
                    generalize V2.alloc (.cells #[.int .i64 yw] 3) = V7
                    intro R S2 S1
                    refine wpAnyH_ready (rs := [7]) (by kernel_rfl) (by simp) (AllReadyH.cons rfl (fun K hK => ?_) AllReadyH.nil)
                    refine step_append_lies _ rfl (.tmp 123) (.tmp 129) 23 rfl wc.heap.size 3 i0 (.int .i64 0) 1 8 Try.underlying23 HI.out.1 HI.out.2.1 HI.out.2.2.1 HI.out.2.2.2 rfl (by decide) va k _ rfl R.hf ⟨b1, 0, none⟩ 1 1 [.int .i64 xw] rfl rfl S1.news (HONE.out _) (by omega) (by unfold maxLen; omega) (by omega) R.size _ rfl ?_
                    intro g8 cap8 V8 hown8 hgr8 hat8 _
                    have R' := R.app1 hown8 hgr8 hat8
                    replace S2 := S2.app1 (k1 := k) (cap := cap8) hgr8 hat8
                    refine hK.out _ _ R'.hb (fun _ => ?_)
                    clear hK K
                    clear R S1 hown8 hgr8 hat8
                    have R := R'
                    clear R'
                    refine wpAnyH_ready (rs := [15]) (by kernel_rfl) (by simp) (AllReadyH.cons rfl (fun K hK => ?_) AllReadyH.nil)
                    refine step_append_lies _ rfl (.tmp 131) (.tmp 137) 23 rfl wc.heap.size 3 i0 (.int .i64 0) 1 8 Try.underlying23 HI.out.1 HI.out.2.1 HI.out.2.2.1 HI.out.2.2.2 rfl (by decide) vb k _ rfl R.hs ⟨b2, 0, none⟩ 1 1 [.int .i64 yw] rfl rfl S2.news (HONE.out _) (by omega) (by unfold maxLen; omega) (by omega) R.size _ rfl ?_
                    intro g9 cap9 V9 hown9 hgr9 hat9 _
                    have R' := R.app2 hown9 hgr9 hat9
                    refine hK.out _ _ R'.hb (fun _ => ?_)
                    clear hK K
                    clear R S2 hown9 hgr9 hat9
                    have R := R'
                    clear R'
                    refine wpAnyH_ready (rs := [16]) (by kernel_rfl) (by simp) (AllReadyH.cons rfl (fun K hK => ?_) AllReadyH.nil)
                    go_simp
                    refine hK.out _ _ R.hb (fun _ => ?_)
                    clear hK K
                    refine wpAnyH_ready (rs := [17]) (by kernel_rfl) (by simp) (AllReadyH.cons rfl (fun K hK => ?_) AllReadyH.nil)
                    go_simp
                    refine hK.out _ _ R.hb (fun _ => ?_)
                    clear hK K
                    refine wpAnyH_done (by kernel_rfl) ?_ _
                    clear HI HONE
                    go_wp2_with fail
                    go_meet
                    case rel => exact R


                case q11 =>
                  go_simp
                  have hbd := R.build yw
                  refine hK.out _ _ hbd.1.hb (fun _ => ?_)
                  clear hK K
                  obtain ⟨b2, hbe⟩ : ∃ b, b = V0.heap.size := ⟨_, rfl⟩
                  rw [← hbe] at hbd ⊢
                  clear hbe
                  obtain ⟨R', S2⟩ := hbd
                  clear R
                  revert R' S2
                  generalize V0.alloc (.cells #[.int .i64 yw] 3) = V10
                  intro R S2
                  refine wpAnyH_ready (rs := [6]) (by kernel_rfl) (by simp) (AllReadyH.cons rfl (fun K hK => ?_) AllReadyH.nil)
                  go_simp
                  have hbd := R.build xw
                  refine hK.out _ _ hbd.1.hb (fun _ => ?_)
                  clear hK K
                  obtain ⟨b1, hbe⟩ : ∃ b, b = V10.heap.size := ⟨_, rfl⟩
                  rw [← hbe] at hbd ⊢
                  clear hbe
                  obtain ⟨R', S1⟩ := hbd
                  have S2' := S2.build (.cells #[.int .i64 xw] 3)
                  clear S2
                  clear R
                  revert R' S1 S2'
                  generalize V10.alloc (.cells #[.int .i64 xw] 3) = V11
                  intro R S1 S2
                  refine wpAnyH_ready (rs := [7]) (by kernel_rfl) (by simp) (AllReadyH.cons rfl (fun K hK => ?_) AllReadyH.nil)
                  refine step_append_lies _ rfl (.tmp 123) (.tmp 129) 23 rfl wc.heap.size 3 i0 (.int .i64 0) 1 8 Try.underlying23 HI.out.1 HI.out.2.1 HI.out.2.2.1 HI.out.2.2.2 rfl (by decide) va k _ rfl R.hf ⟨b1, 0, none⟩ 1 1 [.int .i64 xw] rfl rfl S1.news (HONE.out _) (by omega) (by unfold maxLen; omega) (by omega) R.size _ rfl ?_
                  intro g12 cap12 V12 hown12 hgr12 hat12 _
                  have R' := R.app1 hown12 hgr12 hat12
                  replace S2 := S2.app1 (k1 := k) (cap := cap12) hgr12 hat12
                  refine hK.out _ _ R'.hb (fun _ => ?_)
                  clear hK K
                  clear R S1 hown12 hgr12 hat12
                  have R := R'
                  clear R'
                  refine wpAnyH_ready (rs := [15]) (by kernel_rfl) (by simp) (AllReadyH.cons rfl (fun K hK => ?_) AllReadyH.nil)
                  refine step_append_lies _ rfl (.tmp 131) (.tmp 137) 23 rfl wc.heap.size 3 i0 (.int .i64 0) 1 8 Try.underlying23 HI.out.1 HI.out.2.1 HI.out.2.2.1 HI.out.2.2.2 rfl (by decide) vb k _ rfl R.hs ⟨b2, 0, none⟩ 1 1 [.int .i64 yw] rfl rfl S2.news (HONE.out _) (by omega) (by unfold maxLen; omega) (by omega) R.size _ rfl ?_
                  intro g13 cap13 V13 hown13 hgr13 hat13 _
                  have R' := R.app2 hown13 hgr13 hat13
                  refine hK.out _ _ R'.hb (fun _ => ?_)
                  clear hK K
                  clear R S2 hown13 hgr13 hat13
                  have R := R'
                  clear R'
                  refine wpAnyH_ready (rs := [16]) (by kernel_rfl) (by simp) (AllReadyH.cons rfl (fun K hK => ?_) AllReadyH.nil)
                  go_simp
                  refine hK.out _ _ R.hb (fun _ => ?_)
                  clear hK K
                  refine wpAnyH_ready (rs := [17]) (by kernel_rfl) (by simp) (AllReadyH.cons rfl (fun K hK => ?_) AllReadyH.nil)
                  go_simp
                  refine hK.out _ _ R.hb (fun _ => ?_)
                  clear hK K
                  refine wpAnyH_done (by kernel_rfl) ?_ _
                  clear HI HONE
                  go_wp2_with fail
                  go_meet
                  case rel => exact R


              case rest =>
                have HR := Lib.hid hcut
                clear hcut hR c0 c3
                first | go_back | go_step
                go_wp2_with fail
                go_roundw
                case rel => exact ⟨k + 1, _, _, by omega, by go_num, HR.out, NX.out, NY.out⟩
                case measure => simp [intOf]; omega

            · obtain rfl : k = N := by omega
              have hbt : decide ((k : Int) < (k : Int)) = false := by simp
              obtain ⟨A7, c7, e7⟩ := own_slice hR.hf
              obtain ⟨A8, c8, e8⟩ := own_slice hR.hs
              subst e7 e8
              have rF := own_rowH hR.hf
              have rS := own_rowH hR.hs
              have J1 := Lib.hid (Johnson_yes A7 A8 k c7 c8 f s wr rF rS (small_lit bf) (small_lit bs) (by omega))
              go_wp2_with fail
              refine J1.out.mono ?_
              rintro e11 w11 ⟨R1, o1, rfl, hP1, hS1, _, hb11⟩
              have HP1 := Lib.hid hP1
              have HB1 : Hid (o1.Pairwise (Before f s)) := hS1.imp (fun h => john_le f s h)
              have R0 := hR.later hb11
              obtain ⟨k1, hk1⟩ : ∃ k1, k1 = lenF f s 0 0 o1 := ⟨_, rfl⟩
              rw [← hk1]
              have HK1 := Lib.hid hk1
              have HFl := Lib.hid rF.1
              have HSl := Lib.hid rS.1
              have q1 := Int.emod_nonneg ta (show (10001 : Int) ≠ 0 by omega)
              have q2 := Int.emod_lt_of_pos ta (show (0 : Int) < 10001 by omega)
              have q3 := Int.emod_nonneg tb (show (10001 : Int) ≠ 0 by omega)
              have q4 := Int.emod_lt_of_pos tb (show (0 : Int) < 10001 by omega)
              have BF := Lib.hid (all_more bf q1 (show ta % 10001 ≤ 10000 by omega))
              have BS := Lib.hid (all_more bs q3 (show tb % 10001 ≤ 10000 by omega))
              have HM1 := Lib.hid (fun w => fold_any ta 10001 w (by omega) (by omega))
              have HM2 := Lib.hid (fun w => fold_any tb 10001 w (by omega) (by omega))
              have cT := hT10.cell
              have lT := hT10.lt
              clear J1 hP1 hS1 hb11 hR rF rS hk1 bf bs q1 q2 q3 q4
              go_upto_region 18 with fail
              have R := R0.drew
              clear R0
              refine wp_region_held_drew (S := fun V => Below wc.heap.size wc V) (by kernel_rfl) R.hb (fun hHeld => ?_)
              refine wpAnyH_take (i := 0) (v := ?_) rfl (by kernel_rfl) (by kernel_rfl) (by kernel_rfl) (fun _ _ _ h => h) (Or.inl ⟨by rfl, ?hy⟩) (by assumption) ?_
              case hy => (intro w hSw; have hcw : ∀ p o, p < wc.heap.size → w.cell? ⟨p, o, none⟩ = wc.cell? ⟨p, o, none⟩ := (fun p o h => hSw.cell (p := ⟨p, o, none⟩) h); clear hSw; go_simp; try with_reducible rfl)
              refine wpAnyH_take (i := 1) (v := ?_) rfl (by kernel_rfl) (by kernel_rfl) (by kernel_rfl) (fun _ _ _ h => h) (Or.inl ⟨by rfl, ?hy⟩) (by assumption) ?_
              case hy => (intro w hSw; have hcw : ∀ p o, p < wc.heap.size → w.cell? ⟨p, o, none⟩ = wc.cell? ⟨p, o, none⟩ := (fun p o h => hSw.cell (p := ⟨p, o, none⟩) h); clear hSw; go_simp; try with_reducible rfl)
              refine wpAnyH_take (i := 2) (v := ?_) rfl (by kernel_rfl) (by kernel_rfl) (by kernel_rfl) (fun _ _ _ h => h) (Or.inl ⟨by rfl, ?hy⟩) (by assumption) ?_
              case hy => (intro w hSw; have hcw : ∀ p o, p < wc.heap.size → w.cell? ⟨p, o, none⟩ = wc.cell? ⟨p, o, none⟩ := (fun p o h => hSw.cell (p := ⟨p, o, none⟩) h); clear hSw; go_simp; try with_reducible rfl)
              refine wpAnyH_take (i := 6) (v := ?_) rfl (by kernel_rfl) (by kernel_rfl) (by kernel_rfl) (fun _ _ _ h => h) (Or.inl ⟨by rfl, ?hy⟩) (by assumption) ?_
              case hy => (intro w hSw; have hcw : ∀ p o, p < wc.heap.size → w.cell? ⟨p, o, none⟩ = wc.cell? ⟨p, o, none⟩ := (fun p o h => hSw.cell (p := ⟨p, o, none⟩) h); clear hSw; go_simp; try with_reducible rfl)
              refine wpAnyH_take (i := 7) (v := ?_) rfl (by kernel_rfl) (by kernel_rfl) (by kernel_rfl) (fun _ _ _ h => h) (Or.inl ⟨by rfl, ?hy⟩) (by assumption) ?_
              case hy => (intro w hSw; have hcw : ∀ p o, p < wc.heap.size → w.cell? ⟨p, o, none⟩ = wc.cell? ⟨p, o, none⟩ := (fun p o h => hSw.cell (p := ⟨p, o, none⟩) h); clear hSw; go_simp; try with_reducible rfl)
              refine wpAnyH_take (i := 8) (v := ?_) rfl (by kernel_rfl) (by kernel_rfl) (by kernel_rfl) (fun _ _ _ h => h) (Or.inl ⟨by rfl, ?hy⟩) (by assumption) ?_
              case hy => (intro w hSw; have hcw : ∀ p o, p < wc.heap.size → w.cell? ⟨p, o, none⟩ = wc.cell? ⟨p, o, none⟩ := (fun p o h => hSw.cell (p := ⟨p, o, none⟩) h); clear hSw; go_simp; try with_reducible rfl)
              simp only [Act.put, List.setIfInBounds_toArray]
              obtain ⟨i0, hi, hz0, hz1, hz2⟩ := info_parts info3
              have HI := Lib.hid (And.intro hi (And.intro hz0 (And.intro hz1 hz2)))
              have hone : ∀ (q : Int), ∀ u ∈ [Value.int .i64 q], u.oneCell' = true := fun q u hu => by
                obtain rfl : u = .int .i64 q := by simpa using hu
                rfl
              have HONE := Lib.hid hone
              clear hi hz0 hz1 hz2 hone cT lT hHeld
              revert R
              generalize w11.drew = V0
              intro R
              refine wpAnyH_ready (rs := [3]) (by kernel_rfl) (by simp) (AllReadyH.cons rfl (fun K hK => ?_) AllReadyH.nil)
              go_simp
              refine (HM1.out _).mono ?_
              rintro e w' ⟨rfl, rfl⟩
              refine hK.out _ _ R.hb (fun _ => ?_)
              clear hK K
              generalize ta % 10001 = pa at *
              refine wpAnyH_ready (rs := [4]) (by kernel_rfl) (by simp) (AllReadyH.cons rfl (fun K hK => ?_) AllReadyH.nil)
              go_simp
              have hbd := R.build pa
              refine hK.out _ _ hbd.1.hb (fun _ => ?_)
              clear hK K
              obtain ⟨b1, hbe⟩ : ∃ b, b = V0.heap.size := ⟨_, rfl⟩
              rw [← hbe] at hbd ⊢
              clear hbe
              obtain ⟨R', S1⟩ := hbd
              clear R
              revert R' S1
              generalize V0.alloc (.cells #[.int .i64 pa] 3) = V0x
              intro R S1
              refine wpAnyH_ready (rs := [5]) (by kernel_rfl) (by simp) (AllReadyH.cons rfl (fun K hK => ?_) AllReadyH.nil)
              refine step_append_lies _ rfl (.tmp 147) (.tmp 151) 23 rfl wc.heap.size 3 i0 (.int .i64 0) 1 8 Try.underlying23 HI.out.1 HI.out.2.1 HI.out.2.2.1 HI.out.2.2.2 rfl (by decide) (.slice A7 k c7) k _ rfl R.hf ⟨b1, 0, none⟩ 1 1 [.int .i64 pa] rfl rfl S1.news (HONE.out _) (by omega) (by unfold maxLen; omega) (by omega) R.size _ rfl ?_
              intro g1 cap1 V1 hown hgr hat _
              have R' := R.app1 hown hgr hat
              refine hK.out _ _ R'.hb (fun _ => ?_)
              clear hK K R S1 hown hgr hat
              have R := R'
              clear R'
              refine wpAnyH_ready (rs := [9]) (by kernel_rfl) (by simp) (AllReadyH.cons rfl (fun K hK => ?_) AllReadyH.nil)
              go_simp
              refine (HM2.out _).mono ?_
              rintro e w' ⟨rfl, rfl⟩
              refine hK.out _ _ R.hb (fun _ => ?_)
              clear hK K
              generalize tb % 10001 = pb at *
              refine wpAnyH_ready (rs := [10]) (by kernel_rfl) (by simp) (AllReadyH.cons rfl (fun K hK => ?_) AllReadyH.nil)
              go_simp
              have hbd := R.build pb
              refine hK.out _ _ hbd.1.hb (fun _ => ?_)
              clear hK K
              obtain ⟨b2, hbe⟩ : ∃ b, b = V1.heap.size := ⟨_, rfl⟩
              rw [← hbe] at hbd ⊢
              clear hbe
              obtain ⟨R', S2⟩ := hbd
              clear R
              revert R' S2
              generalize V1.alloc (.cells #[.int .i64 pb] 3) = V1x
              intro R S2
              refine wpAnyH_ready (rs := [11]) (by kernel_rfl) (by simp) (AllReadyH.cons rfl (fun K hK => ?_) AllReadyH.nil)
              refine step_append_lies _ rfl (.tmp 153) (.tmp 157) 23 rfl wc.heap.size 3 i0 (.int .i64 0) 1 8 Try.underlying23 HI.out.1 HI.out.2.1 HI.out.2.2.1 HI.out.2.2.2 rfl (by decide) (.slice A8 k c8) k _ rfl R.hs ⟨b2, 0, none⟩ 1 1 [.int .i64 pb] rfl rfl S2.news (HONE.out _) (by omega) (by unfold maxLen; omega) (by omega) R.size _ rfl ?_
              intro g2 cap2 V2 hown hgr hat _
              have R' := R.app2 hown hgr hat
              refine hK.out _ _ R'.hb (fun _ => ?_)
              clear hK K R S2 hown hgr hat
              have R := R'
              clear R'
              have rF := own_rowH R.hf
              have rS := own_rowH R.hs
              have J2 := Lib.hid (Johnson_yes _ _ (k + 1) cap1 cap2 (f ++ [pa]) (s ++ [pb]) V2 rF rS (small_lit BF.out) (small_lit BS.out) (by omega))
              refine wpAnyH_ready (rs := [12]) (by kernel_rfl) (by simp) (AllReadyH.cons rfl (fun K hK => ?_) AllReadyH.nil)
              go_simp
              refine J2.out.mono ?_
              rintro e12 w12 ⟨R2, o2, rfl, hP2, _, _, hb12⟩
              have hjm2 := johnson_more HFl.out HSl.out (fun i => (small_lit BF.out i).1) (fun i => (small_lit BS.out i).1) HP1.out HB1.out hP2
              rw [← HK1.out] at hjm2
              obtain ⟨k2, hk2⟩ : ∃ k2, k2 = lenF (f ++ [pa]) (s ++ [pb]) 0 0 o2 := ⟨_, rfl⟩
              rw [← hk2] at hjm2 ⊢
              have hb13 := R.hb.trans (hb12.mono R.hb.size)
              refine hK.out _ _ hb13 (fun _ => ?_)
              clear hK K J2 rF rS R hP2 hb12 hk2 HI HONE BF BS HM1 HM2
              refine wpAnyH_ready (rs := [13]) (by kernel_rfl) (by simp) (AllReadyH.cons rfl (fun K hK => ?_) AllReadyH.nil)
              go_simp
              refine hK.out _ _ hb13 (fun hHeld2 => ?_)
              clear hK K
              refine wpAnyH_take (i := 14) (v := ?_) rfl (by kernel_rfl) (by kernel_rfl) (by kernel_rfl) (fun _ _ _ h => h) (Or.inl ⟨by rfl, ?hy⟩) (by assumption) ?_
              case hy => (intro w hSw; clear hSw; go_simp; try with_reducible rfl)
              refine wpAnyH_take (i := 15) (v := ?_) rfl (by kernel_rfl) (by kernel_rfl) (by kernel_rfl) (fun _ _ _ h => h) (Or.inl ⟨by rfl, ?hy⟩) (by assumption) ?_
              case hy => (intro w hSw; clear hSw; go_simp; try with_reducible rfl)
              refine wpAnyH_take (i := 16) (v := ?_) rfl (by kernel_rfl) (by kernel_rfl) (by kernel_rfl) (fun _ _ _ h => h) (Or.inl ⟨by rfl, ?hy⟩) (by assumption) ?_
              case hy => (intro w hSw; clear hSw; go_simp; try with_reducible rfl)
              simp only [Act.put, List.setIfInBounds_toArray]
              refine wpAnyH_ready (rs := [17]) (by kernel_rfl) (by simp) (AllReadyH.cons rfl (fun K hK => ?_) AllReadyH.nil)
              go_simp
              refine hK.out _ _ hHeld2 (fun _ => ?_)
              clear hK K
              refine wpAnyH_ready (rs := [18]) (by kernel_rfl) (by simp) (AllReadyH.cons rfl (fun K hK => ?_) AllReadyH.nil)
              go_simp
              refine hK.out _ _ hHeld2 (fun _ => ?_)
              clear hK K
              refine wpAnyH_ready (rs := [19]) (by kernel_rfl) (by simp) (AllReadyH.cons rfl (fun K hK => ?_) AllReadyH.nil)
              go_simp
              refine hK.out _ _ hHeld2 (fun _ => ?_)
              clear hK K
              refine wpAnyH_done (by kernel_rfl) ?_ _
              have hle : decide (k1 ≤ k2) = true := decide_eq_true hjm2
              have hfin := Lib.hid (hw10.trans (hb13.mono hw10.size))
              clear hb13 hHeld2
              go_wp2_with fail
              go_ret
              exact ⟨rfl, hfin.out⟩
end Go.Proofs.Ytnfcigbiebbjdaa
