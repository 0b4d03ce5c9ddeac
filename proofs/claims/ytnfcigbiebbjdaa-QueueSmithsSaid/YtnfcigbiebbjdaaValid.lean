/-
  The document's Valid tells which jobs are valid.
  Conditions: the slices start at the heads of blocks; what a job comes after has not more than 1000 numbers.
-/
import Derived.Test.YtnfcigbiebbjdaaMixed
namespace Go.Proofs.Ytnfcigbiebbjdaa
open Go.RowKit

theorem in_no (v a b : Int) (w : World) (h : ¬ (a ≤ v ∧ v ≤ b)) : Calls Try.prog 52 #[.int .i64 v, .int .i64 a, .int .i64 b] w fun e w' => e = .returned (.bool false) ∧ w = w' := by
  by_cases h1 : a ≤ v
  · have h2 : ¬ v ≤ b := fun h' => h ⟨h1, h'⟩
    have d1 : decide (a ≤ v) = true := by simpa using h1
    have d2 : decide (v ≤ b) = false := by simpa using h2
    clear h
    go_enter Try.func52, Try.ntmps52
    go_wp2
    go_ret
    exact ⟨rfl, rfl⟩
  · have d1 : decide (a ≤ v) = false := by simpa using h1
    clear h
    go_enter Try.func52, Try.ntmps52
    go_wp2
    go_ret
    exact ⟨rfl, rfl⟩
theorem allB_drop {l : List Jb} {j : Jb} {k : Nat} (hj : l[k]? = some j) : allB k (l.drop k) = (jobB k j && allB (k + 1) (l.drop (k + 1))) := by
  obtain ⟨h1, h2⟩ := List.getElem?_eq_some_iff.1 hj
  rw [List.drop_eq_getElem_cons h1, h2]
  rfl
/-- The last number before place i. -/
def lastB (a : List Int) (i : Nat) : Int := if i = 0 then -1 else a.getD (i - 1) 0

set_option maxRecDepth 100000 in
set_option maxHeartbeats 8000000 in
theorem Valid_any (A : Option Addr) (n c : Nat) (l : List Jb) (w : World) (rA : JobsH w A n l) (hm : ∀ (k : Nat) (j : Jb), l[k]? = some j → j.after.length ≤ 1000) :
    Calls Try.prog 17 #[.slice A n c] w fun e w' => e = .returned (.bool (validB l)) ∧ Below w.heap.size w w' := by
  have hV : Hid (validB l = (decide (n ≤ 64) && allB 0 l)) := by show _ = _; unfold validB; rw [rA.1]
  have HM := Lib.hid hm
  clear hm
  by_cases hn : n ≤ 64
  case neg =>
    have HV : Hid (validB l = false) := by show _ = _; rw [hV.out]; simp [hn]
    have d0 : decide ((n : Int) > 64) = true := by simp; omega
    have d1 : (64 : Int) < (n : Int) := by omega
    clear hV HM
    go_enter Try.func17, Try.ntmps17
    go_wp2_with fail
    go_ret
    exact ⟨by rw [HV.out]; rfl, Below.refl _ _⟩
  case pos =>
    have HV : Hid (validB l = allB 0 (l.drop 0)) := by show _ = _; rw [hV.out]; simp [hn]
    have d0 : decide ((n : Int) > 64) = false := by simp; omega
    have d1 : ¬ (64 : Int) < (n : Int) := by omega
    clear hV
    go_enter Try.func17, Try.ntmps17
    go_wp2_with fail
    go_loopw [3] (fun i wr => ∃ k : Nat, k ≤ n ∧ i = .int .i64 k ∧ Hid (validB l = allB k (l.drop k)) ∧ Below w.heap.size w wr) (fun i _ => n - (intOf i).toNat)
    case atStart => exact ⟨0, Nat.zero_le _, rfl, HV, Below.refl _ _⟩
    case round =>
      clear HV
      obtain ⟨k, hk, rfl, HV, hb⟩ := hrel
      by_cases hlt : k < n
      · have hbt : decide ((k : Int) < (n : Int)) = true := by simp; omega
        have hbt2 : (k : Int) < (n : Int) := by omega
        obtain ⟨g, j, rfl, hg, hj, h0, h1, h2, h3, B, m, c', h4, h5⟩ := (rA.later hb).at_ hlt
        have hlen := HM.out k j hj
        have HS := Lib.hid (allB_drop hj)
        have hb1 := hb.alloc hb.size (.cells #[.int .i64 j.work, .int .i64 j.rel, .int .i64 j.due, .int .i64 j.wt, .slice B m c'] 43)
        have hk2 := Blk.new wr 43 #[.int .i64 j.work, .int .i64 j.rel, .int .i64 j.due, .int .i64 j.wt, .slice B m c']
        have h5' := h5.later ((Below.refl wr.heap.size wr).alloc (Nat.le_refl _) (.cells #[.int .i64 j.work, .int .i64 j.rel, .int .i64 j.due, .int .i64 j.wt, .slice B m c'] 43))
        have hJ : jobB k j = (decide (1 ≤ j.work ∧ j.work ≤ 10000 ∧ 0 ≤ j.rel ∧ j.rel ≤ 640000 ∧ 0 ≤ j.due ∧ j.due ≤ 640000 ∧ 0 ≤ j.wt ∧ j.wt ≤ 1000) && riseB k (-1) j.after) := rfl
        have HJ := Lib.hid hJ
        clear hj hJ h5
        by_cases c1 : 1 ≤ j.work ∧ j.work ≤ 10000
        case neg =>
          have HF : Hid (validB l = false) := by
            show _ = _
            rw [HV.out, HS.out, HJ.out, decide_eq_false (fun h => c1 ⟨h.1, h.2.1⟩)]; simp
          have C1 := fun w => Lib.hid (in_no j.work 1 10000 w c1)
          have K1 := Lib.hid C1
          clear C1 c1 HV HS HJ
          go_wp2_with fail
          refine (K1.out _).out.mono ?_
          rintro e w' ⟨rfl, rfl⟩
          go_wp2_with fail
          go_ret
          exact ⟨by rw [HF.out]; rfl, hb1⟩
        case pos =>
          have C1 := fun w => Lib.hid (in_yes j.work 1 10000 w c1.1 c1.2)
          have K1 := Lib.hid C1
          clear C1
          by_cases c2 : 0 ≤ j.rel ∧ j.rel ≤ 640000
          case neg =>
            have HF : Hid (validB l = false) := by
              show _ = _
              rw [HV.out, HS.out, HJ.out, decide_eq_false (fun h => c2 ⟨h.2.2.1, h.2.2.2.1⟩)]; simp
            have C2 := fun w => Lib.hid (in_no j.rel 0 640000 w c2)
            have K2 := Lib.hid C2
            clear C2 c2 HV HS HJ
            go_wp2_with fail
            refine (K1.out _).out.mono ?_
            rintro e w' ⟨rfl, rfl⟩
            go_wp2_with fail
            refine (K2.out _).out.mono ?_
            rintro e w' ⟨rfl, rfl⟩
            go_wp2_with fail
            go_ret
            exact ⟨by rw [HF.out]; rfl, hb1⟩
          case pos =>
            have C2 := fun w => Lib.hid (in_yes j.rel 0 640000 w c2.1 c2.2)
            have K2 := Lib.hid C2
            clear C2
            by_cases c3 : 0 ≤ j.due ∧ j.due ≤ 640000
            case neg =>
              have HF : Hid (validB l = false) := by
                show _ = _
                rw [HV.out, HS.out, HJ.out, decide_eq_false (fun h => c3 ⟨h.2.2.2.2.1, h.2.2.2.2.2.1⟩)]; simp
              have C3 := fun w => Lib.hid (in_no j.due 0 640000 w c3)
              have K3 := Lib.hid C3
              clear C3 c3 HV HS HJ
              go_wp2_with fail
              refine (K1.out _).out.mono ?_
              rintro e w' ⟨rfl, rfl⟩
              go_wp2_with fail
              refine (K2.out _).out.mono ?_
              rintro e w' ⟨rfl, rfl⟩
              go_wp2_with fail
              refine (K3.out _).out.mono ?_
              rintro e w' ⟨rfl, rfl⟩
              go_wp2_with fail
              go_ret
              exact ⟨by rw [HF.out]; rfl, hb1⟩
            case pos =>
              have C3 := fun w => Lib.hid (in_yes j.due 0 640000 w c3.1 c3.2)
              have K3 := Lib.hid C3
              clear C3
              by_cases c4 : 0 ≤ j.wt ∧ j.wt ≤ 1000
              case neg =>
                have HF : Hid (validB l = false) := by
                  show _ = _
                  rw [HV.out, HS.out, HJ.out, decide_eq_false (fun h => c4 h.2.2.2.2.2.2)]; simp
                have C4 := fun w => Lib.hid (in_no j.wt 0 1000 w c4)
                have K4 := Lib.hid C4
                clear C4 c4 HV HS HJ
                go_wp2_with fail
                refine (K1.out _).out.mono ?_
                rintro e w' ⟨rfl, rfl⟩
                go_wp2_with fail
                refine (K2.out _).out.mono ?_
                rintro e w' ⟨rfl, rfl⟩
                go_wp2_with fail
                refine (K3.out _).out.mono ?_
                rintro e w' ⟨rfl, rfl⟩
                go_wp2_with fail
                refine (K4.out _).out.mono ?_
                rintro e w' ⟨rfl, rfl⟩
                go_wp2_with fail
                go_ret
                exact ⟨by rw [HF.out]; rfl, hb1⟩
              case pos =>
                have C4 := fun w => Lib.hid (in_yes j.wt 0 1000 w c4.1 c4.2)
                have K4 := Lib.hid C4
                have HR0 : Hid (validB l = (riseB k (lastB j.after 0) (j.after.drop 0) && allB (k + 1) (l.drop (k + 1)))) := by
                  show _ = _
                  rw [HV.out, HS.out, HJ.out, decide_eq_true ⟨c1.1, c1.2, c2.1, c2.2, c3.1, c3.2, c4.1, c4.2⟩, List.drop_zero]; rfl
                clear C4 c1 c2 c3 c4 HV HS HJ
                go_wp2_with fail
                refine (K1.out _).out.mono ?_
                rintro e w' ⟨rfl, rfl⟩
                go_wp2_with fail
                refine (K2.out _).out.mono ?_
                rintro e w' ⟨rfl, rfl⟩
                go_wp2_with fail
                refine (K3.out _).out.mono ?_
                rintro e w' ⟨rfl, rfl⟩
                go_wp2_with fail
                refine (K4.out _).out.mono ?_
                rintro e w' ⟨rfl, rfl⟩
                clear K1 K2 K3 K4 h0 h1 h2 h3 h4
                revert hb1 hk2 h5'
                generalize (wr.alloc (.cells #[.int .i64 j.work, .int .i64 j.rel, .int .i64 j.due, .int .i64 j.wt, .slice B m c'] 43)) = w1
                intro hb1 hk2 h5'
                go_wp2_with fail
                go_loopw [6] (fun i wi => ∃ q : Nat, q ≤ m ∧ i = .int .i64 q ∧ (q = 0 ∨ 0 ≤ lastB j.after q) ∧ Hid (validB l = (riseB k (lastB j.after q) (j.after.drop q) && allB (k + 1) (l.drop (k + 1)))) ∧ Below w1.heap.size w1 wi) (fun i _ => m - (intOf i).toNat)
                case atStart => exact ⟨0, Nat.zero_le _, rfl, .inl rfl, HR0, Below.refl _ _⟩
                case round =>
                  clear HR0
                  obtain ⟨q, hq, rfl, hla, HR, hbi⟩ := hrel
                  have hbw := hb1.trans (hbi.mono hb1.size)
                  by_cases hqm : q < m
                  · have u1 : decide ((q : Int) < (m : Int)) = true := by simp; omega
                    have u2 : (q : Int) < (m : Int) := by omega
                    obtain ⟨g2, rfl, hg2, hc⟩ := (h5'.later hbi).at_ hqm
                    have c4 := (hk2.later hbi).cell 4
                    have l4 := (hk2.later hbi).lt
                    have hxq : j.after[q]? = some (j.after.getD q 0) := getD_get (by rw [h5'.1]; exact hqm)
                    have hSt := Lib.hid (riseB_step (lim := k) (last := lastB j.after q) hxq)
                    have hL1 : Hid (lastB j.after (q + 1) = j.after.getD q 0) := by show _ = _; unfold lastB; rw [if_neg (by omega)]; rfl
                    have hqb : q ≤ 1000 := by have := h5'.1; omega
                    have hLast : 0 < q → lastB j.after q = j.after.getD (q - 1) 0 := fun h => by unfold lastB; rw [if_neg (by omega)]
                    have HLst := Lib.hid hLast
                    clear hxq hLast
                    have hxl := later_cell (w := wr)
                    have HX : Hid (j.after.getD q 0 = j.after.getD q 0) := rfl
                    generalize hxe : j.after.getD q 0 = x at *
                    have HXE := Lib.hid hxe
                    clear hxe
                    by_cases r1 : 0 ≤ x ∧ x ≤ (k : Int) - 1
                    case neg =>
                      have HF : Hid (validB l = false) := by
                        show _ = _
                        rw [HR.out, hSt.out]
                        by_cases h : lastB j.after q < x
                        · have : ¬ x < (k : Int) := by
                            intro hx
                            refine r1 ⟨?_, by omega⟩
                            rcases hla with rfl | hla
                            · simp [lastB] at h; omega
                            · omega
                          simp [this]
                        · simp [h]
                      have M2 := fun w => Lib.hid (in_no x 0 ((k : Int) - 1) w r1)
                      have HM2 := Lib.hid M2
                      clear M2 r1 HR hSt hL1 HX hla
                      go_wp2_with fail
                      refine wp_region_later (by kernel_rfl) (by kernel_rfl) ?_
                      repeat (go_big_quiet_step ((go_at_call 52; exact later_same (HM2.out _).out)))
                      refine wpQuiet_nil ?_
                      rintro w2 ⟨⟨_, hb2⟩, rfl⟩
                      have hfin := hbw.trans (hb2.mono hbw.size)
                      have hbi2 := hbi.trans (hb2.mono hbi.size)
                      clear hxl hbi hbw hb2 hc c4 l4
                      go_wp2_with fail
                      go_ret
                      exact ⟨by rw [HF.out]; rfl, hfin⟩
                    case pos =>
                      have M2 := fun w => Lib.hid (in_yes x 0 ((k : Int) - 1) w r1.1 r1.2)
                      have HM2 := Lib.hid M2
                      clear M2
                      rcases Nat.eq_zero_or_pos q with rfl | hq0
                      · have HR2 : Hid (validB l = (riseB k (lastB j.after 1) (j.after.drop 1) && allB (k + 1) (l.drop (k + 1)))) := by
                          show _ = _
                          rw [HR.out, hSt.out]
                          have e : lastB j.after 1 = x := hL1.out
                          rw [e]
                          have h1 : lastB j.after 0 < x := by simp [lastB]; omega
                          have h2 : x < (k : Int) := by omega
                          simp [h1, h2]
                        have hla2 : Hid (0 ≤ lastB j.after 1) := by show _ ≤ _; rw [show lastB j.after 1 = x from hL1.out]; exact r1.1
                        have v1 : decide ((0 : Int) > 0) = false := by decide
                        clear r1 HR hSt hL1 HX hla
                        go_wp2_with fail
                        refine wp_region_later (by kernel_rfl) (by kernel_rfl) ?_
                        repeat (go_big_quiet_step ((go_at_call 52; exact later_same (HM2.out _).out)))
                        refine wpQuiet_nil ?_
                        rintro w2 ⟨⟨_, hb2⟩, rfl⟩
                        have hfin := hbw.trans (hb2.mono hbw.size)
                        have hbi2 := hbi.trans (hb2.mono hbi.size)
                        clear hxl hbi hbw hb2 hc c4 l4
                        go_wp2_with fail
                        go_roundw
                        case rel => exact ⟨1, by omega, by go_num, .inr hla2.out, HR2, hbi2⟩
                        case measure => simp [intOf]; omega
                      · obtain ⟨p, hp⟩ : ∃ p, p = q - 1 := ⟨_, rfl⟩
                        have v1 : decide ((q : Int) > 0) = true := by simp; omega
                        have v2 : (0 : Int) < (q : Int) := by omega
                        have v3 : (q : Int) - 1 = (p : Int) := by omega
                        obtain ⟨_, e1, _, hd⟩ := (h5'.later hbi).at_ (show p < m by omega)
                        cases e1
                        have HLp : Hid (lastB j.after q = j.after.getD p 0) := by show _ = _; rw [hp]; exact HLst.out hq0
                        have hpb : p ≤ 1000 := by omega
                        have hpm : p < m := by omega
                        have HP := Lib.hid hp
                        clear hp
                        generalize j.after.getD p 0 = y at *
                        by_cases r2 : x ≤ y
                        · have s1 : decide (x ≤ y) = true := by simpa using r2
                          have HF : Hid (validB l = false) := by
                            show _ = _
                            rw [HR.out, hSt.out, HLp.out, decide_eq_false (by omega)]
                            rfl
                          clear r1 HR hSt hL1 HX hla
                          go_wp2_with fail
                          refine wp_region_later (by kernel_rfl) (by kernel_rfl) ?_
                          repeat (go_big_quiet_step ((go_at_call 52; exact later_same (HM2.out _).out)))
                          refine wpQuiet_nil ?_
                          rintro w2 ⟨⟨_, hb2⟩, rfl⟩
                          have hfin := hbw.trans (hb2.mono hbw.size)
                          have hbi2 := hbi.trans (hb2.mono hbi.size)
                          clear hxl hbi hbw hb2 hc hd c4 l4
                          go_wp2_with fail
                          go_ret
                          exact ⟨by rw [HF.out]; rfl, hfin⟩
                        · have s1 : decide (x ≤ y) = false := by simpa using r2
                          have s2 : y < x := by omega
                          have HR2 : Hid (validB l = (riseB k (lastB j.after (q + 1)) (j.after.drop (q + 1)) && allB (k + 1) (l.drop (k + 1)))) := by
                            show _ = _
                            rw [HR.out, hSt.out, hL1.out, HLp.out, decide_eq_true s2, decide_eq_true (show x < (k : Int) by omega)]
                            rfl
                          have hla2 : Hid (0 ≤ lastB j.after (q + 1)) := by show _ ≤ _; rw [hL1.out]; exact r1.1
                          clear r1 HR hSt hL1 HX hla
                          go_wp2_with fail
                          refine wp_region_later (by kernel_rfl) (by kernel_rfl) ?_
                          repeat (go_big_quiet_step ((go_at_call 52; exact later_same (HM2.out _).out)))
                          refine wpQuiet_nil ?_
                          rintro w2 ⟨⟨_, hb2⟩, rfl⟩
                          have hfin := hbw.trans (hb2.mono hbw.size)
                          have hbi2 := hbi.trans (hb2.mono hbi.size)
                          clear hxl hbi hbw hb2 hc hd c4 l4
                          go_wp2_with fail
                          go_roundw
                          case rel => exact ⟨q + 1, by omega, by go_num, .inr hla2.out, HR2, hbi2⟩
                          case measure => simp [intOf]; omega
                  · obtain rfl : q = m := by omega
                    have u1 : decide ((q : Int) < (q : Int)) = false := by simp
                    have HE : Hid (validB l = allB (k + 1) (l.drop (k + 1))) := by
                      show _ = _
                      rw [HR.out, List.drop_of_length_le (by rw [h5'.1]; exact Nat.le_refl _)]; rfl
                    have c4 := (hk2.later hbi).cell 4
                    have l4 := (hk2.later hbi).lt
                    go_wp2_with fail
                    go_roundw
                    case rel => exact ⟨k + 1, by omega, by go_num, HE, hbw⟩
                    case measure => simp [intOf]; omega
      · obtain rfl : k = n := by omega
        have hbt : decide ((k : Int) < (k : Int)) = false := by simp
        have HF : Hid (validB l = true) := by
          show _ = _
          rw [HV.out, List.drop_of_length_le (by rw [rA.1]; exact Nat.le_refl _)]; rfl
        go_wp2_with fail
        go_ret
        exact ⟨by rw [HF.out]; rfl, hb⟩
end Go.Proofs.Ytnfcigbiebbjdaa
