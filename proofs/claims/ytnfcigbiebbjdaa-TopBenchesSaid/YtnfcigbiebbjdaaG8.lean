/-
  The seat's texts Valid RWtd Late Bools Lawler in one: the contracts of the functions that the law reaches, and the plain laws that they rest on.
  Conditions: as each theorem states them.
-/
import Derived.Test.YtnfcigbiebbjdaaG6
import Derived.Test.YtnfcigbiebbjdaaG1
import Derived.Deep.Cut
namespace Go.Proofs.Ytnfcigbiebbjdaa
open Go.RowKit

theorem in_no (v a b : Int) (w : World) (h : ¬ (a ≤ v ∧ v ≤ b)) : Calls Try.prog 52 #[.int .i64 v, .int .i64 a, .int .i64 b] w fun e w' => e = .returned (.bool false) ∧ w = w' := by
  by_cases h1 : a ≤ v
  · have h2 : ¬ v ≤ b := fun h' => h ⟨h1, h'⟩
    have d1 : decide (a ≤ v) = true := by simpa using h1
    have d2 : decide (v ≤ b) = false := by simpa using h2
    clear h
    go_enter Try.func52, Try.ntmps52
    go_wp2
    go_ret
    exact ⟨rfl, rfl⟩
  · have d1 : decide (a ≤ v) = false := by simpa using h1
    clear h
    go_enter Try.func52, Try.ntmps52
    go_wp2
    go_ret
    exact ⟨rfl, rfl⟩
theorem allB_drop {l : List Jb} {j : Jb} {k : Nat} (hj : l[k]? = some j) : allB k (l.drop k) = (jobB k j && allB (k + 1) (l.drop (k + 1))) := by
  obtain ⟨h1, h2⟩ := List.getElem?_eq_some_iff.1 hj
  rw [List.drop_eq_getElem_cons h1, h2]
  rfl
/-- The last number before place i. -/
def lastB (a : List Int) (i : Nat) : Int := if i = 0 then -1 else a.getD (i - 1) 0

set_option maxRecDepth 100000 in
set_option maxHeartbeats 8000000 in
theorem Valid_any (A : Option Addr) (n c : Nat) (l : List Jb) (w : World) (rA : JobsH w A n l) (hm : ∀ (k : Nat) (j : Jb), l[k]? = some j → j.after.length ≤ 1000) :
    Calls Try.prog 17 #[.slice A n c] w fun e w' => e = .returned (.bool (validB l)) ∧ Below w.heap.size w w' := by
  have hV : Hid (validB l = (decide (n ≤ 64) && allB 0 l)) := by show _ = _; unfold validB; rw [rA.1]
  have HM := Lib.hid hm
  clear hm
  by_cases hn : n ≤ 64
  case neg =>
    have HV : Hid (validB l = false) := by show _ = _; rw [hV.out]; simp [hn]
    have d0 : decide ((n : Int) > 64) = true := by simp; omega
    have d1 : (64 : Int) < (n : Int) := by omega
    clear hV HM
    go_enter Try.func17, Try.ntmps17
    go_wp2_with fail
    go_ret
    exact ⟨by rw [HV.out]; rfl, Below.refl _ _⟩
  case pos =>
    have HV : Hid (validB l = allB 0 (l.drop 0)) := by show _ = _; rw [hV.out]; simp [hn]
    have d0 : decide ((n : Int) > 64) = false := by simp; omega
    have d1 : ¬ (64 : Int) < (n : Int) := by omega
    clear hV
    go_enter Try.func17, Try.ntmps17
    go_wp2_with fail
    go_loopw [3] (fun i wr => ∃ k : Nat, k ≤ n ∧ i = .int .i64 k ∧ Hid (validB l = allB k (l.drop k)) ∧ Below w.heap.size w wr) (fun i _ => n - (intOf i).toNat)
    case atStart => exact ⟨0, Nat.zero_le _, rfl, HV, Below.refl _ _⟩
    case round =>
      clear HV
      obtain ⟨k, hk, rfl, HV, hb⟩ := hrel
      by_cases hlt : k < n
      · have hbt : decide ((k : Int) < (n : Int)) = true := by simp; omega
        have hbt2 : (k : Int) < (n : Int) := by omega
        obtain ⟨g, j, rfl, hg, hj, h0, h1, h2, h3, B, m, c', h4, h5⟩ := (rA.later hb).at_ hlt
        have hlen := HM.out k j hj
        have HS := Lib.hid (allB_drop hj)
        have hb1 := hb.alloc hb.size (.cells #[.int .i64 j.work, .int .i64 j.rel, .int .i64 j.due, .int .i64 j.wt, .slice B m c'] 43)
        have hk2 := Blk.new wr 43 #[.int .i64 j.work, .int .i64 j.rel, .int .i64 j.due, .int .i64 j.wt, .slice B m c']
        have h5' := h5.later ((Below.refl wr.heap.size wr).alloc (Nat.le_refl _) (.cells #[.int .i64 j.work, .int .i64 j.rel, .int .i64 j.due, .int .i64 j.wt, .slice B m c'] 43))
        have hJ : jobB k j = (decide (1 ≤ j.work ∧ j.work ≤ 10000 ∧ 0 ≤ j.rel ∧ j.rel ≤ 640000 ∧ 0 ≤ j.due ∧ j.due ≤ 640000 ∧ 0 ≤ j.wt ∧ j.wt ≤ 1000) && riseB k (-1) j.after) := rfl
        have HJ := Lib.hid hJ
        clear hj hJ h5
        by_cases c1 : 1 ≤ j.work ∧ j.work ≤ 10000
        case neg =>
          have HF : Hid (validB l = false) := by
            show _ = _
            rw [HV.out, HS.out, HJ.out, decide_eq_false (fun h => c1 ⟨h.1, h.2.1⟩)]; simp
          have C1 := fun w => Lib.hid (in_no j.work 1 10000 w c1)
          have K1 := Lib.hid C1
          clear C1 c1 HV HS HJ
          go_wp2_with fail
          refine (K1.out _).out.mono ?_
          rintro e w' ⟨rfl, rfl⟩
          go_wp2_with fail
          go_ret
          exact ⟨by rw [HF.out]; rfl, hb1⟩
        case pos =>
          have C1 := fun w => Lib.hid (in_yes j.work 1 10000 w c1.1 c1.2)
          have K1 := Lib.hid C1
          clear C1
          by_cases c2 : 0 ≤ j.rel ∧ j.rel ≤ 640000
          case neg =>
            have HF : Hid (validB l = false) := by
              show _ = _
              rw [HV.out, HS.out, HJ.out, decide_eq_false (fun h => c2 ⟨h.2.2.1, h.2.2.2.1⟩)]; simp
            have C2 := fun w => Lib.hid (in_no j.rel 0 640000 w c2)
            have K2 := Lib.hid C2
            clear C2 c2 HV HS HJ
            go_wp2_with fail
            refine (K1.out _).out.mono ?_
            rintro e w' ⟨rfl, rfl⟩
            go_wp2_with fail
            refine (K2.out _).out.mono ?_
            rintro e w' ⟨rfl, rfl⟩
            go_wp2_with fail
            go_ret
            exact ⟨by rw [HF.out]; rfl, hb1⟩
          case pos =>
            have C2 := fun w => Lib.hid (in_yes j.rel 0 640000 w c2.1 c2.2)
            have K2 := Lib.hid C2
            clear C2
            by_cases c3 : 0 ≤ j.due ∧ j.due ≤ 640000
            case neg =>
              have HF : Hid (validB l = false) := by
                show _ = _
                rw [HV.out, HS.out, HJ.out, decide_eq_false (fun h => c3 ⟨h.2.2.2.2.1, h.2.2.2.2.2.1⟩)]; simp
              have C3 := fun w => Lib.hid (in_no j.due 0 640000 w c3)
              have K3 := Lib.hid C3
              clear C3 c3 HV HS HJ
              go_wp2_with fail
              refine (K1.out _).out.mono ?_
              rintro e w' ⟨rfl, rfl⟩
              go_wp2_with fail
              refine (K2.out _).out.mono ?_
              rintro e w' ⟨rfl, rfl⟩
              go_wp2_with fail
              refine (K3.out _).out.mono ?_
              rintro e w' ⟨rfl, rfl⟩
              go_wp2_with fail
              go_ret
              exact ⟨by rw [HF.out]; rfl, hb1⟩
            case pos =>
              have C3 := fun w => Lib.hid (in_yes j.due 0 640000 w c3.1 c3.2)
              have K3 := Lib.hid C3
              clear C3
              by_cases c4 : 0 ≤ j.wt ∧ j.wt ≤ 1000
              case neg =>
                have HF : Hid (validB l = false) := by
                  show _ = _
                  rw [HV.out, HS.out, HJ.out, decide_eq_false (fun h => c4 h.2.2.2.2.2.2)]; simp
                have C4 := fun w => Lib.hid (in_no j.wt 0 1000 w c4)
                have K4 := Lib.hid C4
                clear C4 c4 HV HS HJ
                go_wp2_with fail
                refine (K1.out _).out.mono ?_
                rintro e w' ⟨rfl, rfl⟩
                go_wp2_with fail
                refine (K2.out _).out.mono ?_
                rintro e w' ⟨rfl, rfl⟩
                go_wp2_with fail
                refine (K3.out _).out.mono ?_
                rintro e w' ⟨rfl, rfl⟩
                go_wp2_with fail
                refine (K4.out _).out.mono ?_
                rintro e w' ⟨rfl, rfl⟩
                go_wp2_with fail
                go_ret
                exact ⟨by rw [HF.out]; rfl, hb1⟩
              case pos =>
                have C4 := fun w => Lib.hid (in_yes j.wt 0 1000 w c4.1 c4.2)
                have K4 := Lib.hid C4
                have HR0 : Hid (validB l = (riseB k (lastB j.after 0) (j.after.drop 0) && allB (k + 1) (l.drop (k + 1)))) := by
                  show _ = _
                  rw [HV.out, HS.out, HJ.out, decide_eq_true ⟨c1.1, c1.2, c2.1, c2.2, c3.1, c3.2, c4.1, c4.2⟩, List.drop_zero]; rfl
                clear C4 c1 c2 c3 c4 HV HS HJ
                go_wp2_with fail
                refine (K1.out _).out.mono ?_
                rintro e w' ⟨rfl, rfl⟩
                go_wp2_with fail
                refine (K2.out _).out.mono ?_
                rintro e w' ⟨rfl, rfl⟩
                go_wp2_with fail
                refine (K3.out _).out.mono ?_
                rintro e w' ⟨rfl, rfl⟩
                go_wp2_with fail
                refine (K4.out _).out.mono ?_
                rintro e w' ⟨rfl, rfl⟩
                clear K1 K2 K3 K4 h0 h1 h2 h3 h4
                revert hb1 hk2 h5'
                generalize (wr.alloc (.cells #[.int .i64 j.work, .int .i64 j.rel, .int .i64 j.due, .int .i64 j.wt, .slice B m c'] 43)) = w1
                intro hb1 hk2 h5'
                go_wp2_with fail
                go_loopw [6] (fun i wi => ∃ q : Nat, q ≤ m ∧ i = .int .i64 q ∧ (q = 0 ∨ 0 ≤ lastB j.after q) ∧ Hid (validB l = (riseB k (lastB j.after q) (j.after.drop q) && allB (k + 1) (l.drop (k + 1)))) ∧ Below w1.heap.size w1 wi) (fun i _ => m - (intOf i).toNat)
                case atStart => exact ⟨0, Nat.zero_le _, rfl, .inl rfl, HR0, Below.refl _ _⟩
                case round =>
                  clear HR0
                  obtain ⟨q, hq, rfl, hla, HR, hbi⟩ := hrel
                  have hbw := hb1.trans (hbi.mono hb1.size)
                  by_cases hqm : q < m
                  · have u1 : decide ((q : Int) < (m : Int)) = true := by simp; omega
                    have u2 : (q : Int) < (m : Int) := by omega
                    obtain ⟨g2, rfl, hg2, hc⟩ := (h5'.later hbi).at_ hqm
                    have c4 := (hk2.later hbi).cell 4
                    have l4 := (hk2.later hbi).lt
                    have hxq : j.after[q]? = some (j.after.getD q 0) := getD_get (by rw [h5'.1]; exact hqm)
                    have hSt := Lib.hid (riseB_step (lim := k) (last := lastB j.after q) hxq)
                    have hL1 : Hid (lastB j.after (q + 1) = j.after.getD q 0) := by show _ = _; unfold lastB; rw [if_neg (by omega)]; rfl
                    have hqb : q ≤ 1000 := by have := h5'.1; omega
                    have hLast : 0 < q → lastB j.after q = j.after.getD (q - 1) 0 := fun h => by unfold lastB; rw [if_neg (by omega)]
                    have HLst := Lib.hid hLast
                    clear hxq hLast
                    have hxl := later_cell (w := wr)
                    have HX : Hid (j.after.getD q 0 = j.after.getD q 0) := rfl
                    generalize hxe : j.after.getD q 0 = x at *
                    have HXE := Lib.hid hxe
                    clear hxe
                    by_cases r1 : 0 ≤ x ∧ x ≤ (k : Int) - 1
                    case neg =>
                      have HF : Hid (validB l = false) := by
                        show _ = _
                        rw [HR.out, hSt.out]
                        by_cases h : lastB j.after q < x
                        · have : ¬ x < (k : Int) := by
                            intro hx
                            refine r1 ⟨?_, by omega⟩
                            rcases hla with rfl | hla
                            · simp [lastB] at h; omega
                            · omega
                          simp [this]
                        · simp [h]
                      have M2 := fun w => Lib.hid (in_no x 0 ((k : Int) - 1) w r1)
                      have HM2 := Lib.hid M2
                      clear M2 r1 HR hSt hL1 HX hla
                      go_wp2_with fail
                      refine wp_region_later (by kernel_rfl) (by kernel_rfl) ?_
                      repeat (go_big_quiet_step ((go_at_call 52; exact later_same (HM2.out _).out)))
                      refine wpQuiet_nil ?_
                      rintro w2 ⟨⟨_, hb2⟩, rfl⟩
                      have hfin := hbw.trans (hb2.mono hbw.size)
                      have hbi2 := hbi.trans (hb2.mono hbi.size)
                      clear hxl hbi hbw hb2 hc c4 l4
                      go_wp2_with fail
                      go_ret
                      exact ⟨by rw [HF.out]; rfl, hfin⟩
                    case pos =>
                      have M2 := fun w => Lib.hid (in_yes x 0 ((k : Int) - 1) w r1.1 r1.2)
                      have HM2 := Lib.hid M2
                      clear M2
                      rcases Nat.eq_zero_or_pos q with rfl | hq0
                      · have HR2 : Hid (validB l = (riseB k (lastB j.after 1) (j.after.drop 1) && allB (k + 1) (l.drop (k + 1)))) := by
                          show _ = _
                          rw [HR.out, hSt.out]
                          have e : lastB j.after 1 = x := hL1.out
                          rw [e]
                          have h1 : lastB j.after 0 < x := by simp [lastB]; omega
                          have h2 : x < (k : Int) := by omega
                          simp [h1, h2]
                        have hla2 : Hid (0 ≤ lastB j.after 1) := by show _ ≤ _; rw [show lastB j.after 1 = x from hL1.out]; exact r1.1
                        have v1 : decide ((0 : Int) > 0) = false := by decide
                        clear r1 HR hSt hL1 HX hla
                        go_wp2_with fail
                        refine wp_region_later (by kernel_rfl) (by kernel_rfl) ?_
                        repeat (go_big_quiet_step ((go_at_call 52; exact later_same (HM2.out _).out)))
                        refine wpQuiet_nil ?_
                        rintro w2 ⟨⟨_, hb2⟩, rfl⟩
                        have hfin := hbw.trans (hb2.mono hbw.size)
                        have hbi2 := hbi.trans (hb2.mono hbi.size)
                        clear hxl hbi hbw hb2 hc c4 l4
                        go_wp2_with fail
                        go_roundw
                        case rel => exact ⟨1, by omega, by go_num, .inr hla2.out, HR2, hbi2⟩
                        case measure => simp [intOf]; omega
                      · obtain ⟨p, hp⟩ : ∃ p, p = q - 1 := ⟨_, rfl⟩
                        have v1 : decide ((q : Int) > 0) = true := by simp; omega
                        have v2 : (0 : Int) < (q : Int) := by omega
                        have v3 : (q : Int) - 1 = (p : Int) := by omega
                        obtain ⟨_, e1, _, hd⟩ := (h5'.later hbi).at_ (show p < m by omega)
                        cases e1
                        have HLp : Hid (lastB j.after q = j.after.getD p 0) := by show _ = _; rw [hp]; exact HLst.out hq0
                        have hpb : p ≤ 1000 := by omega
                        have hpm : p < m := by omega
                        have HP := Lib.hid hp
                        clear hp
                        generalize j.after.getD p 0 = y at *
                        by_cases r2 : x ≤ y
                        · have s1 : decide (x ≤ y) = true := by simpa using r2
                          have HF : Hid (validB l = false) := by
                            show _ = _
                            rw [HR.out, hSt.out, HLp.out, decide_eq_false (by omega)]
                            rfl
                          clear r1 HR hSt hL1 HX hla
                          go_wp2_with fail
                          refine wp_region_later (by kernel_rfl) (by kernel_rfl) ?_
                          repeat (go_big_quiet_step ((go_at_call 52; exact later_same (HM2.out _).out)))
                          refine wpQuiet_nil ?_
                          rintro w2 ⟨⟨_, hb2⟩, rfl⟩
                          have hfin := hbw.trans (hb2.mono hbw.size)
                          have hbi2 := hbi.trans (hb2.mono hbi.size)
                          clear hxl hbi hbw hb2 hc hd c4 l4
                          go_wp2_with fail
                          go_ret
                          exact ⟨by rw [HF.out]; rfl, hfin⟩
                        · have s1 : decide (x ≤ y) = false := by simpa using r2
                          have s2 : y < x := by omega
                          have HR2 : Hid (validB l = (riseB k (lastB j.after (q + 1)) (j.after.drop (q + 1)) && allB (k + 1) (l.drop (k + 1)))) := by
                            show _ = _
                            rw [HR.out, hSt.out, hL1.out, HLp.out, decide_eq_true s2, decide_eq_true (show x < (k : Int) by omega)]
                            rfl
                          have hla2 : Hid (0 ≤ lastB j.after (q + 1)) := by show _ ≤ _; rw [hL1.out]; exact r1.1
                          clear r1 HR hSt hL1 HX hla
                          go_wp2_with fail
                          refine wp_region_later (by kernel_rfl) (by kernel_rfl) ?_
                          repeat (go_big_quiet_step ((go_at_call 52; exact later_same (HM2.out _).out)))
                          refine wpQuiet_nil ?_
                          rintro w2 ⟨⟨_, hb2⟩, rfl⟩
                          have hfin := hbw.trans (hb2.mono hbw.size)
                          have hbi2 := hbi.trans (hb2.mono hbi.size)
                          clear hxl hbi hbw hb2 hc hd c4 l4
                          go_wp2_with fail
                          go_roundw
                          case rel => exact ⟨q + 1, by omega, by go_num, .inr hla2.out, HR2, hbi2⟩
                          case measure => simp [intOf]; omega
                  · obtain rfl : q = m := by omega
                    have u1 : decide ((q : Int) < (q : Int)) = false := by simp
                    have HE : Hid (validB l = allB (k + 1) (l.drop (k + 1))) := by
                      show _ = _
                      rw [HR.out, List.drop_of_length_le (by rw [h5'.1]; exact Nat.le_refl _)]; rfl
                    have c4 := (hk2.later hbi).cell 4
                    have l4 := (hk2.later hbi).lt
                    go_wp2_with fail
                    go_roundw
                    case rel => exact ⟨k + 1, by omega, by go_num, HE, hbw⟩
                    case measure => simp [intOf]; omega
      · obtain rfl : k = n := by omega
        have hbt : decide ((k : Int) < (k : Int)) = false := by simp
        have HF : Hid (validB l = true) := by
          show _ = _
          rw [HV.out, List.drop_of_length_le (by rw [rA.1]; exact Nat.le_refl _)]; rfl
        go_wp2_with fail
        go_ret
        exact ⟨by rw [HF.out]; rfl, hb⟩
end Go.Proofs.Ytnfcigbiebbjdaa
namespace Go.Proofs.Ytnfcigbiebbjdaa
open Go.RowKit

set_option maxHeartbeats 1000000 in
theorem rWeighted_any (A O : Option Addr) (n c m e : Nat) (l : List Jb) (o : List Int) (W : World) (rA : JobsH W A n l) (rO : RowH W O m o) (ht : ∀ (k : Nat) (x : Jb), l[k]? = some x → Tame x) (ho : ∀ x ∈ o, 0 ≤ x ∧ x < (n : Int)) (hm : m ≤ 64) :
    Calls Try.prog 21 #[.slice A n c, .slice O m e] W fun e w' => e = .returned (.int .i64 (wsum l 0 o)) ∧ W = w' := by
  have HT := Lib.hid ht
  have HO := Lib.hid ho
  have HL0 : Hid (wsum l 0 o = wsumA l 0 0 (o.drop 0)) := by show _ = _; rw [wsumA_eq, List.drop_zero]; omega
  clear ht ho
  go_enter Try.func21, Try.ntmps21
  go_wp2_with fail
  go_loopw [5, 6, 7] (fun a b i wr => ∃ (k : Nat) (t u : Int), k ≤ m ∧ i = .int .i64 k ∧ a = .int .i64 t ∧ b = .int .i64 u ∧ 0 ≤ t ∧ t ≤ 10000 * k ∧ 0 ≤ u ∧ u ≤ 640000000 * k ∧ Hid (wsum l 0 o = wsumA l t u (o.drop k)) ∧ W = wr) (fun _ _ i _ => m - (intOf i).toNat)
  case atStart => exact ⟨0, 0, 0, Nat.zero_le _, rfl, rfl, rfl, Int.le_refl _, by omega, Int.le_refl _, by omega, HL0, rfl⟩
  case round =>
    obtain ⟨k, t, u, hk, rfl, rfl, rfl, t0, t1, u0, u1, hL, rfl⟩ := hrel
    by_cases hlt : k < m
    · obtain ⟨go, rfl, hgo, co⟩ := rO.at_ hlt
      have hol : o[k]? = some (o.getD k 0) := getD_get (by rw [rO.1]; exact hlt)
      have hx := HO.out _ (List.mem_of_getElem? hol)
      have hdr := Lib.hid (drop_step hol)
      clear hol
      generalize o.getD k 0 = x at *
      obtain ⟨x0, x1⟩ := hx
      obtain ⟨i, rfl⟩ := Int.eq_ofNat_of_zero_le x0
      have hi : i < n := by omega
      obtain ⟨g, rfl, hg, hj, c0, _, _, c3, _⟩ := rA.get hi
      have tx := HT.out i _ hj
      have HLs : Hid (wsumA l t u (o.drop k) = wsumA l (t + (jat l i).work) (u + (jat l i).wt * (t + (jat l i).work)) (o.drop (k + 1))) := by
        show _ = _
        rw [hdr.out, Int.mul_comm (jat l i).wt]
        rfl
      clear hj
      obtain ⟨p0, p1, w0, w1⟩ := tx
      generalize (jat l i).work = p at *
      generalize (jat l i).wt = q at *
      have m1 : 0 ≤ q * (t + p) := Int.mul_nonneg w0 (by omega)
      have m2 : q * (t + p) ≤ 1000 * 640000 := Int.mul_le_mul w1 (by omega) (by omega) (by omega)
      have hbt : decide ((k : Int) < (m : Int)) = true := by simp; omega
      have hbt2 : (k : Int) < (m : Int) := by omega
      clear hdr x0 x1
      go_wp2_with fail
      go_roundw
      case rel => exact ⟨k + 1, t + p, u + q * (t + p), by omega, by go_num, rfl, rfl, by omega, by omega, by omega, by omega, hL.out.trans HLs.out, trivial⟩
      case measure => simp [intOf]; omega
    · obtain rfl : k = m := by omega
      have hbt : decide ((k : Int) < (k : Int)) = false := by simp
      have he : o.drop k = [] := List.drop_of_length_le (by rw [rO.1]; exact Nat.le_refl _)
      have HE : Hid (wsum l 0 o = u) := by
        show _ = _
        rw [hL.out, he]
        rfl
      clear he
      go_wp2_with fail
      go_ret
      exact ⟨by rw [HE.out]; rfl, rfl⟩
end Go.Proofs.Ytnfcigbiebbjdaa
namespace Go.Proofs.Ytnfcigbiebbjdaa
open Go.RowKit

def Calm (j : Jb) : Prop := 1 ≤ j.work ∧ j.work ≤ 10000 ∧ 0 ≤ j.due ∧ j.due ≤ 640000 ∧ 0 ≤ j.wt ∧ j.wt ≤ 1000
theorem validB_calm {l : List Jb} (h : validB l = true) {k : Nat} {j : Jb} (hj : l[k]? = some j) : Calm j := by
  unfold validB at h
  simp only [Bool.and_eq_true] at h
  have := allB_step hj h.2
  unfold jobB at this
  simp only [Bool.and_eq_true, decide_eq_true_eq] at this
  exact ⟨by omega, by omega, by omega, by omega, by omega, by omega⟩
theorem fine_bound {j : Jb} (hj : Calm j) {t : Int} (h1 : t ≤ 640000) : 0 ≤ fineJ j t ∧ fineJ j t ≤ 640000000 := by
  obtain ⟨_, _, d0, d1, w0, w1⟩ := hj
  unfold fineJ
  have m1 : 0 ≤ j.wt * max 0 (t - j.due) := Int.mul_nonneg w0 (by omega)
  have m2 : j.wt * max 0 (t - j.due) ≤ 1000 * 640000 := Int.mul_le_mul w1 (by omega) (by omega) (by omega)
  omega
set_option maxHeartbeats 1000000 in
theorem fine_any (j : Jb) (v : Value) (t : Int) (w : World) (hj : Calm j) (h0 : 0 ≤ t) (h1 : t ≤ 640000) :
    Calls Try.prog 61 #[.agg #[.int .i64 j.work, .int .i64 j.rel, .int .i64 j.due, .int .i64 j.wt, v], .int .i64 t] w fun e w' => e = .returned (.int .i64 (fineJ j t)) ∧ Below w.heap.size w w' := by
  have hb : Below w.heap.size w (w.alloc (.cells #[.int .i64 j.work, .int .i64 j.rel, .int .i64 j.due, .int .i64 j.wt, v] 43)) := (Below.refl _ _).alloc (Nat.le_refl _) _
  have hfb := fine_bound hj h1
  obtain ⟨_, _, d0, d1, w0, w1⟩ := hj
  have HF : Hid (fineJ j t = j.wt * max 0 (t - j.due)) := rfl
  generalize fineJ j t = q at *
  generalize j.due = d at *
  generalize j.wt = x at *
  generalize j.work = y at *
  generalize j.rel = z at *
  rcases Int.lt_trichotomy 0 (t - d) with h | h | h
  · have e : max 0 (t - d) = t - d := by omega
    rw [e] at HF
    have HF2 : Hid (q = x * (t - d)) := HF
    have b1 : 0 ≤ x * (t - d) := by have := HF.out; omega
    have b2 : x * (t - d) ≤ 640000000 := by have := HF.out; omega
    clear e HF
    go_enter Try.func61, Try.ntmps61
    go_wp2
    go_ret
    exact ⟨by rw [HF2.out]; rfl, hb⟩
  · have e : max 0 (t - d) = 0 := by omega
    rw [e, Int.mul_zero] at HF
    have hz : t = d := by omega
    clear e h
    subst hz
    go_enter Try.func61, Try.ntmps61
    go_wp2
    go_ret
    exact ⟨by rw [HF.out]; simp, hb⟩
  · have e : max 0 (t - d) = 0 := by omega
    rw [e, Int.mul_zero] at HF
    clear e
    go_enter Try.func61, Try.ntmps61
    go_wp2
    go_ret
    exact ⟨by rw [HF.out]; simp, hb⟩

set_option maxHeartbeats 2000000 in
theorem late_any (A O : Option Addr) (n c m e : Nat) (l : List Jb) (o : List Int) (W : World) (rA : JobsH W A n l) (rO : RowH W O m o) (ht : ∀ (k : Nat) (x : Jb), l[k]? = some x → Calm x) (ho : ∀ x ∈ o, 0 ≤ x ∧ x < (n : Int)) (hm : m ≤ 64) :
    Calls Try.prog 62 #[.slice A n c, .slice O m e] W fun e w' => e = .returned (.int .i64 (lateF l 0 o)) ∧ Below W.heap.size W w' := by
  have HT := Lib.hid ht
  have HO := Lib.hid ho
  have HL0 : Hid (lateF l 0 o = lateA l 0 0 (o.drop 0)) := by show _ = _; rw [lateA_eq _ _ _ _ (Int.le_refl _), List.drop_zero]; have := lateF_nonneg l 0 o; omega
  clear ht ho
  go_enter Try.func62, Try.ntmps62
  go_wp2_with fail
  go_loopw [5, 6, 11] (fun a b i wr => ∃ (k : Nat) (t u : Int), k ≤ m ∧ i = .int .i64 k ∧ a = .int .i64 t ∧ b = .int .i64 u ∧ 0 ≤ t ∧ t ≤ 10000 * k ∧ 0 ≤ u ∧ u ≤ 640000000 ∧ Hid (lateF l 0 o = lateA l t u (o.drop k)) ∧ Below W.heap.size W wr) (fun _ _ i _ => m - (intOf i).toNat)
  case atStart => exact ⟨0, 0, 0, Nat.zero_le _, rfl, rfl, rfl, Int.le_refl _, by omega, Int.le_refl _, by omega, HL0, Below.refl _ _⟩
  case round =>
    obtain ⟨k, t, u, hk, rfl, rfl, rfl, t0, t1, u0, u1, hL, hb⟩ := hrel
    by_cases hlt : k < m
    · obtain ⟨go, rfl, hgo, co⟩ := (rO.later hb).at_ hlt
      have hol : o[k]? = some (o.getD k 0) := getD_get (by rw [rO.1]; exact hlt)
      have hx := HO.out _ (List.mem_of_getElem? hol)
      have hdr := Lib.hid (drop_step hol)
      clear hol
      generalize o.getD k 0 = x at *
      obtain ⟨x0, x1⟩ := hx
      obtain ⟨i, rfl⟩ := Int.eq_ofNat_of_zero_le x0
      have hi : i < n := by omega
      obtain ⟨g, rfl, hg, hj, c0, c1, c2, c3, B, q, qc, c4, _⟩ := (rA.later hb).get hi
      have tx := HT.out i _ hj
      have hw0 := tx.1
      have hw1 := tx.2.1
      have HLs : Hid (lateA l t u (o.drop k) = lateA l (t + (jat l i).work) (max u (fineJ (jat l i) (t + (jat l i).work))) (o.drop (k + 1))) := by
        show _ = _
        rw [hdr.out]
        rfl
      have M := Lib.hid (fine_any (jat l i) (.slice B q qc) (t + (jat l i).work) wr tx (by omega) (by omega))
      have hfb := fine_bound tx (show t + (jat l i).work ≤ 640000 by omega)
      generalize fineJ (jat l i) (t + (jat l i).work) = f at *
      have hbt : decide ((k : Int) < (m : Int)) = true := by simp; omega
      have hbt2 : (k : Int) < (m : Int) := by omega
      clear hdr x0 x1 tx hj
      generalize jat l i = j at *
      go_wp2_with fail
      refine M.out.mono ?_
      rintro e w2 ⟨rfl, hb2⟩
      have hb3 := hb.trans (hb2.mono hb.size)
      clear M c0 c1 c2 c3 c4 co hb hb2
      rcases Int.lt_trichotomy u f with h | h | h
      · have e : max u f = f := by omega
        rw [e] at HLs
        clear e
        go_wp2_with fail
        go_roundw
        case rel => exact ⟨k + 1, t + j.work, f, by omega, by go_num, rfl, rfl, by omega, by omega, by omega, by omega, hL.out.trans HLs.out, hb3⟩
        case measure => simp [intOf]; omega
      · subst h
        have e : max u u = u := by omega
        rw [e] at HLs
        clear e
        go_wp2_with fail
        go_roundw
        case rel => exact ⟨k + 1, t + j.work, u, by omega, by go_num, rfl, rfl, by omega, by omega, by omega, by omega, hL.out.trans HLs.out, hb3⟩
        case measure => simp [intOf]; omega
      · have e : max u f = u := by omega
        rw [e] at HLs
        clear e
        go_wp2_with fail
        go_roundw
        case rel => exact ⟨k + 1, t + j.work, u, by omega, by go_num, rfl, rfl, by omega, by omega, by omega, by omega, hL.out.trans HLs.out, hb3⟩
        case measure => simp [intOf]; omega
    · obtain rfl : k = m := by omega
      have hbt : decide ((k : Int) < (k : Int)) = false := by simp
      have he : o.drop k = [] := List.drop_of_length_le (by rw [rO.1]; exact Nat.le_refl _)
      have HE : Hid (lateF l 0 o = u) := by
        show _ = _
        rw [hL.out, he]
        rfl
      clear he
      go_wp2_with fail
      go_ret
      exact ⟨by rw [HE.out]; rfl, hb⟩

set_option maxHeartbeats 2000000 in
theorem rLate_any (A O : Option Addr) (n c m e : Nat) (l : List Jb) (o : List Int) (W : World) (rA : JobsH W A n l) (rO : RowH W O m o) (ht : ∀ (k : Nat) (x : Jb), l[k]? = some x → Calm x) (ho : ∀ x ∈ o, 0 ≤ x ∧ x < (n : Int)) (hm : m ≤ 64) :
    Calls Try.prog 31 #[.slice A n c, .slice O m e] W fun e w' => e = .returned (.int .i64 (lateF l 0 o)) ∧ Below W.heap.size W w' := by
  have HT := Lib.hid ht
  have HO := Lib.hid ho
  have HL0 : Hid (lateF l 0 o = lateA l 0 0 (o.drop 0)) := by show _ = _; rw [lateA_eq _ _ _ _ (Int.le_refl _), List.drop_zero]; have := lateF_nonneg l 0 o; omega
  clear ht ho
  go_enter Try.func31, Try.ntmps31
  go_wp2_with fail
  go_loopw [5, 6, 7] (fun a b i wr => ∃ (k : Nat) (t u : Int), k ≤ m ∧ i = .int .i64 k ∧ a = .int .i64 t ∧ b = .int .i64 u ∧ 0 ≤ t ∧ t ≤ 10000 * k ∧ 0 ≤ u ∧ u ≤ 640000000 ∧ Hid (lateF l 0 o = lateA l t u (o.drop k)) ∧ Below W.heap.size W wr) (fun _ _ i _ => m - (intOf i).toNat)
  case atStart => exact ⟨0, 0, 0, Nat.zero_le _, rfl, rfl, rfl, Int.le_refl _, by omega, Int.le_refl _, by omega, HL0, Below.refl _ _⟩
  case round =>
    obtain ⟨k, t, u, hk, rfl, rfl, rfl, t0, t1, u0, u1, hL, hb⟩ := hrel
    by_cases hlt : k < m
    · obtain ⟨go, rfl, hgo, co⟩ := (rO.later hb).at_ hlt
      have hol : o[k]? = some (o.getD k 0) := getD_get (by rw [rO.1]; exact hlt)
      have hx := HO.out _ (List.mem_of_getElem? hol)
      have hdr := Lib.hid (drop_step hol)
      clear hol
      generalize o.getD k 0 = x at *
      obtain ⟨x0, x1⟩ := hx
      obtain ⟨i, rfl⟩ := Int.eq_ofNat_of_zero_le x0
      have hi : i < n := by omega
      obtain ⟨g, rfl, hg, hj, c0, c1, c2, c3, B, q, qc, c4, _⟩ := (rA.later hb).get hi
      have tx := HT.out i _ hj
      have HLs : Hid (lateA l t u (o.drop k) = lateA l (t + (jat l i).work) (max u (fineJ (jat l i) (t + (jat l i).work))) (o.drop (k + 1))) := by
        show _ = _
        rw [hdr.out]
        rfl
      have hw1 := tx.2.1
      have hfb := fine_bound tx (show t + (jat l i).work ≤ 640000 by omega)
      have HFd : Hid (fineJ (jat l i) (t + (jat l i).work) = (jat l i).wt * max 0 (t + (jat l i).work - (jat l i).due)) := rfl
      obtain ⟨p0, p1, d0, d1, w0, w1⟩ := tx
      generalize fineJ (jat l i) (t + (jat l i).work) = f at *
      have hbt : decide ((k : Int) < (m : Int)) = true := by simp; omega
      have hbt2 : (k : Int) < (m : Int) := by omega
      clear hdr x0 x1 hj
      generalize (jat l i).work = p at *
      generalize (jat l i).due = d at *
      generalize (jat l i).wt = x at *
      generalize (jat l i).rel = z at *
      have hb3 := hb.alloc hb.size (.cells #[.int .i64 p, .int .i64 z, .int .i64 d, .int .i64 x, .slice B q qc] 43)
      clear hb
      have key : (f = 0 ∧ t + p ≤ d) ∨ (d < t + p ∧ Hid (f = x * (t + p - d)) ∧ 0 ≤ x * (t + p - d) ∧ x * (t + p - d) ≤ 640000000) := by
        have h := HFd.out
        rcases Int.lt_or_le d (t + p) with h1 | h1
        · right
          rw [show max 0 (t + p - d) = t + p - d by omega] at h
          exact ⟨h1, h, by omega, by omega⟩
        · left
          rw [show max 0 (t + p - d) = 0 by omega, Int.mul_zero] at h
          exact ⟨h, h1⟩
      clear HFd
      rcases key with ⟨rfl, hd⟩ | ⟨hd, HF, f0, f1⟩
      · have e : max u 0 = u := by omega
        rw [e] at HLs
        clear e
        rcases Int.lt_or_le (t + p) d with h1 | h1
        · rcases Int.lt_or_le 0 u with h2 | h2
          · go_wp2_with fail
            go_roundw
            case rel => exact ⟨k + 1, t + p, u, by omega, by go_num, rfl, rfl, by omega, by omega, by omega, by omega, hL.out.trans HLs.out, hb3⟩
            case measure => simp [intOf]; omega
          · obtain rfl : u = 0 := by omega
            go_wp2_with fail
            go_roundw
            case rel => exact ⟨k + 1, t + p, 0, by omega, by go_num, rfl, rfl, by omega, by omega, by omega, by omega, hL.out.trans HLs.out, hb3⟩
            case measure => simp [intOf]; omega
        · obtain rfl : d = t + p := by omega
          clear hd h1
          rcases Int.lt_or_le 0 u with h2 | h2
          · go_wp2_with fail
            go_roundw
            case rel => exact ⟨k + 1, t + p, u, by omega, by go_num, rfl, rfl, by omega, by omega, by omega, by omega, hL.out.trans HLs.out, hb3⟩
            case measure => simp [intOf]; omega
          · obtain rfl : u = 0 := by omega
            go_wp2_with fail
            go_roundw
            case rel => exact ⟨k + 1, t + p, 0, by omega, by go_num, rfl, rfl, by omega, by omega, by omega, by omega, hL.out.trans HLs.out, hb3⟩
            case measure => simp [intOf]; omega
      · have hd2 : 0 < t + p - d := by omega
        rw [HF.out] at HLs
        generalize hG : x * (t + p - d) = G at *
        rcases Int.lt_trichotomy u G with h | h | h
        · have e : max u G = G := by omega
          rw [e] at HLs
          clear e HF hfb
          go_wp2_with fail
          go_roundw
          case rel => exact ⟨k + 1, t + p, G, by omega, by go_num, rfl, rfl, by omega, by omega, by omega, by omega, hL.out.trans HLs.out, hb3⟩
          case measure => simp [intOf]; omega
        · have e : max u G = G := by omega
          rw [e] at HLs
          subst h
          clear e HF hfb
          go_wp2_with fail
          go_roundw
          case rel => exact ⟨k + 1, t + p, u, by omega, by go_num, rfl, rfl, by omega, by omega, by omega, by omega, hL.out.trans HLs.out, hb3⟩
          case measure => simp [intOf]; omega
        · have e : max u G = u := by omega
          rw [e] at HLs
          clear e HF hfb
          go_wp2_with fail
          go_roundw
          case rel => exact ⟨k + 1, t + p, u, by omega, by go_num, rfl, rfl, by omega, by omega, by omega, by omega, hL.out.trans HLs.out, hb3⟩
          case measure => simp [intOf]; omega
    · obtain rfl : k = m := by omega
      have hbt : decide ((k : Int) < (k : Int)) = false := by simp
      have he : o.drop k = [] := List.drop_of_length_le (by rw [rO.1]; exact Nat.le_refl _)
      have HE : Hid (lateF l 0 o = u) := by
        show _ = _
        rw [hL.out, he]
        rfl
      clear he
      go_wp2_with fail
      go_ret
      exact ⟨by rw [HE.out]; rfl, hb⟩
end Go.Proofs.Ytnfcigbiebbjdaa
namespace Go.Proofs.Ytnfcigbiebbjdaa
open Go.RowKit

def boolc (n : Nat) (f : Int → Bool) : Array Value := ((nums n).map fun z => Value.bool (f z)).toArray
theorem boolc_at {n : Nat} {f : Int → Bool} {i : Nat} (h : i < n) : (boolc n f)[i]? = some (.bool (f i)) := by
  unfold boolc
  rw [List.getElem?_toArray, List.getElem?_map]
  simp [nums, h]
theorem boolc_size (n : Nat) (f : Int → Bool) : (boolc n f).size = n := by simp [boolc, nums_length]
theorem boolc_set {n : Nat} {f : Int → Bool} {i : Nat} {x : Bool} : (boolc n f).setIfInBounds i (.bool x) = boolc n fun z => if z = (i : Int) then x else f z := by
  refine Array.ext_getElem? fun k => ?_
  by_cases hk : k < n
  · rw [boolc_at hk]
    by_cases e : i = k
    · subst e
      rw [Array.getElem?_setIfInBounds_self_of_lt (by rw [boolc_size]; exact hk), if_pos rfl]
    · rw [Array.getElem?_setIfInBounds_ne e, boolc_at hk, if_neg (by omega)]
  · rw [Array.getElem?_eq_none (by rw [Array.size_setIfInBounds, boolc_size]; omega), Array.getElem?_eq_none (by rw [boolc_size]; omega)]
theorem boolc_congr {n : Nat} {f g : Int → Bool} (h : ∀ z : Int, 0 ≤ z → z < n → f z = g z) : boolc n f = boolc n g := by
  unfold boolc
  congr 1
  refine List.map_congr_left fun z hz => ?_
  have := mem_nums.1 hz
  rw [h z this.1 this.2]
/-- Block P is a row of Booleans. -/
def RowBo (w : World) (P n : Nat) (f : Int → Bool) : Prop := Blk w P 4 (boolc n f)
theorem RowBo.at_ {w : World} {P n i : Nat} {f : Int → Bool} (h : RowBo w P n f) (hi : i < n) : w.cell? ⟨P, i, none⟩ = some (.bool (f i)) := (Blk.cell h i).trans (boolc_at hi)
theorem RowBo.set_ {w : World} {P n : Nat} {f : Int → Bool} (h : RowBo w P n f) (i : Nat) (x : Bool) : RowBo (w.setCell ⟨P, i, none⟩ (.bool x)) P n fun z => if z = (i : Int) then x else f z := by
  have := Blk.set_ h i (.bool x)
  rwa [boolc_set] at this
theorem RowBo.later {w w' : World} {P n : Nat} {f : Int → Bool} (h : RowBo w P n f) (hb : Below w.heap.size w w') : RowBo w' P n f := Blk.later h hb
theorem RowBo.frozen {w : World} {P n : Nat} {f : Int → Bool} (h : RowBo w P n f) (i : Nat) : w.frozen? ⟨P, i, none⟩ = false := Blk.frozen h i
theorem RowBo.lt {w : World} {P n : Nat} {f : Int → Bool} (h : RowBo w P n f) : P < w.heap.size := Blk.lt h
theorem RowBo.congr {w : World} {P n : Nat} {f g : Int → Bool} (h : RowBo w P n f) (e : ∀ z : Int, 0 ≤ z → z < n → f z = g z) : RowBo w P n g := by
  unfold RowBo
  rw [← boolc_congr e]
  exact h
/-- Block R is a row of numbers made of a law. -/
def RowT (w : World) (R n : Nat) (f : Int → Int) : Prop := RowB w R (tab n f)
theorem RowT.at_ {w : World} {R n i : Nat} {f : Int → Int} (h : RowT w R n f) (hi : i < n) : w.cell? ⟨R, i, none⟩ = some (.int .i64 (f i)) := RowB.at_ h (tab_get hi)
theorem RowT.set_ {w : World} {R n : Nat} {f : Int → Int} (h : RowT w R n f) (i : Nat) (x : Int) : RowT (w.setCell ⟨R, i, none⟩ (.int .i64 x)) R n fun z => if z = (i : Int) then x else f z := by
  have := RowB.set_ h i x
  rwa [tab_set] at this
theorem RowT.later {w w' : World} {R n : Nat} {f : Int → Int} (h : RowT w R n f) (hb : Below w.heap.size w w') : RowT w' R n f := RowB.later h hb
theorem RowT.frozen {w : World} {R n : Nat} {f : Int → Int} (h : RowT w R n f) (i : Nat) : w.frozen? ⟨R, i, none⟩ = false := RowB.frozen h i
theorem RowT.lt {w : World} {R n : Nat} {f : Int → Int} (h : RowT w R n f) : R < w.heap.size := RowB.lt h
theorem RowT.congr {w : World} {R n : Nat} {f g : Int → Int} (h : RowT w R n f) (e : ∀ z : Int, 0 ≤ z → z < n → f z = g z) : RowT w R n g := by
  unfold RowT
  rw [← tab_congr e]
  exact h
theorem RowT.new (w : World) (n : Nat) : RowT (w.alloc (.cells (rowc (List.replicate n 0)) 3)) w.heap.size n fun _ => 0 := by
  unfold RowT
  rw [← tab_zero]
  exact RowB.of (Blk.new w 3 _)
theorem info4 : (Try.prog.info? 4).map (fun i => (i.zero, i.size, i.bytes)) = some (some (.bool false), 1, 1) := by kernel_rfl
def boolz (n : Nat) : Array Value := boolc n fun _ => false
theorem boolz_eq (n : Nat) : boolz n = (List.replicate n (Value.bool false)).toArray := by
  unfold boolz boolc
  congr 1
  refine List.ext_getElem? fun k => ?_
  by_cases hk : k < n
  · simp [nums, hk]
  · rw [List.getElem?_eq_none (by simp [nums_length]; omega), List.getElem?_eq_none (by simp; omega)]
/-- A new row of Booleans. -/
theorem make_bools (n : Nat) (hn : n ≤ 100000) (w : World) : (Instr.makeSlice 73 (.int .i64 (n : Int)) (.int .i64 (n : Int))).run Try.prog w = .ok (.slice (some ⟨w.heap.size, 0, none⟩) n n) (w.alloc (.cells (boolz n) 4)) := by
  obtain ⟨i0, hi, hz0, hz1, hz2⟩ := info_parts info4
  have hr := run_make (P := Try.prog) w 73 4 i0 (.bool false) Try.underlying73 hi hz0 .i64 .i64 n n (by omega) (Int.le_refl _) (by rw [hz2]; omega) (by omega)
  simp only [Int.toNat_natCast] at hr
  rw [hr, hz1, Nat.mul_one]
  have e : madeCells (Value.bool false).cells n = boolz n := by
    rw [boolz_eq]
    apply Array.toList_inj.1
    have := toList_madeCells_one (.bool false) n
    show (madeCells #[.bool false] n).toList = _
    rw [this]
  rw [e]
theorem RowBo.new (w : World) (n : Nat) : RowBo (w.alloc (.cells (boolz n) 4)) w.heap.size n fun _ => false := Blk.new w 4 _
end Go.Proofs.Ytnfcigbiebbjdaa
namespace Go.Proofs.Ytnfcigbiebbjdaa
open Go.RowKit

theorem RowT.far {w : World} {R n : Nat} {f : Int → Int} (h : RowT w R n f) {p : Addr} (hp : R ≠ p.block) (u : Value) : RowT (w.setCell p u) R n f := RowB.far h hp u
theorem RowBo.far {w : World} {R n : Nat} {f : Int → Bool} (h : RowBo w R n f) {p : Addr} (hp : R ≠ p.block) (u : Value) : RowBo (w.setCell p u) R n f := Blk.far h hp u
theorem count_take {a x : Int} {l : List Int} {q : Nat} (h : l[q]? = some x) : (l.take (q + 1)).count a = (l.take q).count a + if a = x then 1 else 0 := by
  rw [List.take_add_one, h, List.count_append]
  congr 1
  by_cases e : a = x
  · subst e; simp
  · rw [if_neg e]
    exact List.count_eq_zero.2 (by simpa using e)
theorem named_one (l : List Jb) (o : List Int) (b a : Int) : named l (b :: o) a = named l o a + (jat l b).after.count a := by
  simp only [named]; omega
theorem named_next (l : List Jb) (k : Nat) (a : Int) : named l (nums (k + 1)) a = named l (nums k) a + (jat l k).after.count a := by
  rw [nums_succ, named_append]
  simp [named]
theorem works_next (l : List Jb) (k : Nat) : works l (nums (k + 1)) = works l (nums k) + (jat l k).work := by
  rw [nums_succ, works_append]
  simp [works]
theorem validB_len {l : List Jb} (h : validB l = true) (i : Int) : (jat l i).after.length ≤ 64 := by
  have hv := h
  unfold validB at h
  simp only [Bool.and_eq_true, decide_eq_true_eq] at h
  rcases jat_cases l i with e | ⟨k, hk, e⟩
  · rw [e]; simp [Jb.none]
  · have := allB_at h.2 k _ e
    unfold jobB at this
    simp only [Bool.and_eq_true] at this
    have h2 := riseB_short (k := k) (by rw [Nat.zero_add] at this; exact this.2)
    have := (List.getElem?_eq_some_iff.1 e).1
    omega
theorem named_le {l : List Jb} (h : validB l = true) (o : List Int) (a : Int) : named l o a ≤ 64 * o.length := by
  induction o with
  | nil => simp [named]
  | cons x r ih =>
    have h1 : (jat l x).after.count a ≤ (jat l x).after.length := List.count_le_length
    have h2 := validB_len h x
    simp only [named, List.length_cons]
    omega
theorem works_bound {l : List Jb} (h : validB l = true) (o : List Int) : 0 ≤ works l o ∧ works l o ≤ 10000 * (o.length : Int) := by
  induction o with
  | nil => simp [works]
  | cons x r ih =>
    have hx : 0 ≤ (jat l x).work ∧ (jat l x).work ≤ 10000 := by
      rcases jat_cases l x with e | ⟨k, hk, e⟩
      · rw [e]; decide
      · have := validB_calm h e
        exact ⟨by have := this.1; omega, this.2.1⟩
    simp only [works, List.length_cons]
    omega
theorem upTo_bound {l : List Jb} (h : validB l = true) {n : Nat} {R : List Int} (hG : GoodL l n R) (hn : n ≤ 64) : 0 ≤ upTo l n R ∧ upTo l n R ≤ 640000 := by
  rw [works_rest l (hG.sub l)]
  have h1 := works_bound h (rest n R)
  have h2 := (rest_perm (hG.sub l)).length_eq
  rw [List.length_append, nums_length] at h2
  omega
theorem upTo_next {l : List Jb} {n : Nat} {R : List Int} {b : Int} : upTo l n (b :: R) = upTo l n R - (jat l b).work := by
  unfold upTo
  simp only [works]
  omega
theorem put_at {r k : Nat} {R : List Int} {b : Int} (hk : r < k) : (List.replicate (k - r) 0 ++ R).set (k - 1 - r) b = List.replicate (k - (r + 1)) 0 ++ b :: R := by
  rw [show k - r = (k - (r + 1)) + 1 by omega, List.replicate_succ', List.append_assoc, List.set_append_right _ _ (by simp; omega)]
  simp [show k - 1 - r - (k - (r + 1)) = 0 by omega]
theorem Scan.nat {F : Int → Prop} {f : Int → Int} {k : Nat} {b : Int} (h : Scan F f k b) (hb : ¬ b < 0) : ∃ i : Nat, b = i ∧ i < k := by
  rcases h with ⟨h1, _⟩ | ⟨h1, h2, _⟩
  · omega
  · obtain ⟨i, rfl⟩ := Int.eq_ofNat_of_zero_le h1
    exact ⟨i, rfl, by omega⟩
/-- A job as a later world reads it; what it comes after as the earlier world knows it. -/
theorem JobsH.both {w wr : World} {A : Option Addr} {n i : Nat} {l : List Jb} (h : JobsH w A n l) (hb : Below w.heap.size w wr) (hi : i < n) :
    ∃ g B m cB, A = some ⟨g, 0, none⟩ ∧ g < wr.heap.size ∧ l[i]? = some (jat l i) ∧ wr.cell? ⟨g, i * 5, none⟩ = some (.int .i64 (jat l i).work) ∧ wr.cell? ⟨g, i * 5 + 1, none⟩ = some (.int .i64 (jat l i).rel) ∧ wr.cell? ⟨g, i * 5 + 2, none⟩ = some (.int .i64 (jat l i).due) ∧
      wr.cell? ⟨g, i * 5 + 3, none⟩ = some (.int .i64 (jat l i).wt) ∧ wr.cell? ⟨g, i * 5 + 4, none⟩ = some (.slice B m cB) ∧ RowH w B m (jat l i).after := by
  obtain ⟨g, e, hg, hj, c0, c1, c2, c3, B, m, cB, c4, hr⟩ := h.get hi
  exact ⟨g, B, m, cB, e, Nat.lt_of_lt_of_le hg hb.size, hj, (hb.cell (p := ⟨g, i * 5, none⟩) hg).trans c0, (hb.cell (p := ⟨g, i * 5 + 1, none⟩) hg).trans c1, (hb.cell (p := ⟨g, i * 5 + 2, none⟩) hg).trans c2, (hb.cell (p := ⟨g, i * 5 + 3, none⟩) hg).trans c3, (hb.cell (p := ⟨g, i * 5 + 4, none⟩) hg).trans c4, hr⟩
/-- What Lawler returns. -/
def LawlR (w : World) (l : List Jb) (n : Nat) (e : Ending) (w' : World) : Prop :=
  ∃ (O : Nat) (o : List Int), e = .returned (.tuple #[.slice (some ⟨O, 0, none⟩) n n, .int .i64 (lateF l 0 o), .int .i64 0]) ∧ GoodL l n o ∧ o.length = n ∧ RowH w' (some ⟨O, 0, none⟩) n o ∧ Below w.heap.size w w'

set_option maxRecDepth 100000 in
set_option maxHeartbeats 8000000 in
theorem Lawler_yes (A : Option Addr) (n c : Nat) (l : List Jb) (w : World) (rA : JobsH w A n l) (hv : validB l = true) : Calls Try.prog 27 #[.slice A n c] w (LawlR w l n) := by
  have hn : n ≤ 64 := by
    have h := hv
    unfold validB at h
    simp only [Bool.and_eq_true, decide_eq_true_eq] at h
    rw [← rA.1]; exact h.1
  have HC : Hid (∀ (k : Nat) (x : Jb), l[k]? = some x → Calm x) := fun k x h => validB_calm hv h
  have HV := Lib.hid hv
  have M1 := Lib.hid (Check_yes A n c l w rA hv)
  have hmk := make_ints n (by omega)
  have hmb := make_bools n (by omega)
  clear hv
  go_enter Try.func27, Try.ntmps27
  go_wp2_with fail
  refine M1.out.mono ?_
  rintro e w1 ⟨rfl, hb1⟩
  have rA1 := rA.later hb1
  obtain ⟨F, hF⟩ : ∃ F, F = w1.heap.size := ⟨_, rfl⟩
  have hF0 : w.heap.size ≤ F := by rw [hF]; exact hb1.size
  have hf0 : RowT (w1.alloc (.cells (rowc (List.replicate n 0)) 3)) F n (fun a => (named l (nums 0) a : Int)) := by
    rw [hF]
    exact (RowT.new w1 n).congr fun z _ _ => by simp [nums, named]
  have hbb := hb1.alloc hb1.size (.cells (rowc (List.replicate n 0)) 3)
  have HF := Lib.hid hF
  have hf1 : Hid (RowT (w1.alloc (.cells (rowc (List.replicate n 0)) 3)) F n (fun a => (named l (nums 0) a : Int))) := hf0
  clear M1 hF hf0
  go_wp2_with fail
  rw [← HF.out]
  go_loopw [6, 29] (fun t i wr => ∃ (k : Nat) (s : Int), k ≤ n ∧ i = .int .i64 k ∧ t = .int .i64 s ∧ Hid (s = works l (nums k)) ∧ 0 ≤ s ∧ s ≤ 10000 * k ∧ RowT wr F n (fun a => (named l (nums k) a : Int)) ∧ Below w.heap.size w wr) (fun _ i _ => n - (intOf i).toNat)
  case atStart => exact ⟨0, 0, Nat.zero_le _, rfl, rfl, rfl, Int.le_refl _, by omega, hf1.out, hbb⟩
  case round =>
    clear hf1 hbb hb1 rA1
    obtain ⟨k, s, hk, rfl, rfl, hs, s0, s1, hf, hb⟩ := hrel
    by_cases hlt : k < n
    · have hbt : decide ((k : Int) < (n : Int)) = true := by simp; omega
      have hbt2 : (k : Int) < (n : Int) := by omega
      obtain ⟨g, B, m, cB, e1, hg, hj, c0, c1, c2, c3, c4, hrow⟩ := rA.both hb hlt
      have HRow := Lib.hid hrow
      subst e1
      have hq := HC.out k _ hj
      have hlen := validB_len HV.out (k : Int)
      have hup := validB_up HV.out (k : Int)
      have hWs := Lib.hid (works_next l k)
      have hN := Lib.hid (fun a => named_next l k a)
      have HU := Lib.hid hup
      obtain ⟨p0, p1, _⟩ := hq
      clear hj hup
      generalize jat l k = j at *
      obtain ⟨W1, hW1⟩ : ∃ W1, W1 = wr.alloc (.cells #[.int .i64 j.work, .int .i64 j.rel, .int .i64 j.due, .int .i64 j.wt, .slice B m cB] 43) := ⟨_, rfl⟩
      have hba := (Below.refl wr.heap.size wr).alloc (Nat.le_refl _) (.cells #[.int .i64 j.work, .int .i64 j.rel, .int .i64 j.due, .int .i64 j.wt, .slice B m cB] 43)
      rw [← hW1] at hba
      have hf1 := (hf.later hba).congr (g := fun a => (named l (nums k) a : Int) + ((j.after.take 0).count a : Int)) (fun z _ _ => by simp)
      have hb1 := hb.trans (hba.mono hb.size)
      have HW1 := Lib.hid hW1
      have hmj : j.after.length = m := hrow.1
      clear hba hrow hf hb hW1
      go_wp2_with fail
      rw [← HW1.out]
      clear HW1 c0 c1 c2 c3 c4
      go_loopw [40] (fun i wi => ∃ q : Nat, q ≤ m ∧ i = .int .i64 q ∧ RowT wi F n (fun a => (named l (nums k) a : Int) + ((j.after.take q).count a : Int)) ∧ Below w.heap.size w wi) (fun i _ => m - (intOf i).toNat)
      case atStart => exact ⟨0, Nat.zero_le _, rfl, hf1, hb1⟩
      case round =>
        clear hf1 hb1
        obtain ⟨q, hq, rfl, hf, hb⟩ := hrel
        by_cases hqm : q < m
        · have ubt : decide ((q : Int) < (m : Int)) = true := by simp; omega
          have ubt2 : (q : Int) < (m : Int) := by omega
          obtain ⟨g2, e1, hg2, hc⟩ := (HRow.out.later hb).at_ hqm
          cases e1
          have hxq : j.after[q]? = some (j.after.getD q 0) := getD_get (by rw [hmj]; exact hqm)
          have hx := HU.out _ (List.mem_of_getElem? hxq)
          have hct := Lib.hid (fun a => count_take (a := a) hxq)
          clear hxq
          generalize j.after.getD q 0 = x at *
          obtain ⟨x0, x1⟩ := hx
          obtain ⟨i, rfl⟩ := Int.eq_ofNat_of_zero_le x0
          have hi : i < n := by omega
          have hin : (i : Int) < (n : Int) := by omega
          have cF := hf.at_ hi
          have fF := hf.frozen i
          have lF := hf.lt
          have b1 : named l (nums k) i ≤ 64 * k := by have := named_le HV.out (nums k) i; rwa [nums_length] at this
          have b2 : (j.after.take q).count (i : Int) ≤ 64 := by
            have h1 : (j.after.take q).count (i : Int) ≤ (j.after.take q).length := List.count_le_length
            rw [List.length_take] at h1
            omega
          have hset := hf.set_ i ((named l (nums k) i : Int) + ((j.after.take q).count (i : Int) : Int) + 1)
          have hset2 := hset.congr (g := fun a => (named l (nums k) a : Int) + ((j.after.take (q + 1)).count a : Int)) (fun z _ _ => by
            rw [hct.out z]
            by_cases e : z = (i : Int)
            · subst e; simp; omega
            · simp [e])
          have HS := Lib.hid hset2
          have hbs := Lib.hid (hb.setCell (p := ⟨F, i, none⟩) hF0 (.int .i64 ((named l (nums k) i : Int) + ((j.after.take q).count (i : Int) : Int) + 1)))
          clear hset hset2 hf hb hct x0 x1
          generalize named l (nums k) (i : Int) = v1 at *
          generalize List.count (i : Int) (j.after.take q) = v2 at *
          go_wp2_with fail
          go_roundw
          case rel => exact ⟨q + 1, by omega, by go_num, HS.out, hbs.out⟩
          case measure => simp [intOf]; omega
        · obtain rfl : q = m := by omega
          have ubt : decide ((q : Int) < (q : Int)) = false := by simp
          have hf2 := hf.congr (g := fun a => (named l (nums (k + 1)) a : Int)) (fun z _ _ => by
            rw [hN.out z, List.take_of_length_le (by omega)]; omega)
          go_wp2_with fail
          go_roundw
          case rel => exact ⟨k + 1, s + j.work, by omega, by go_num, rfl, by show _ = _; rw [hWs.out, hs.out], by omega, by omega, hf2, hb⟩
          case measure => simp [intOf]; omega
    · obtain rfl : k = n := by omega
      have hbt : decide ((k : Int) < (k : Int)) = false := by simp
      obtain ⟨O, hO⟩ : ∃ O, O = wr.heap.size := ⟨_, rfl⟩
      have hO0 : w.heap.size ≤ O := by rw [hO]; exact hb.size
      have hFO : F ≠ O := by have := hf.lt; omega
      have hx1 := (Below.refl wr.heap.size wr).alloc (Nat.le_refl _) (.cells (rowc (List.replicate k 0)) 3)
      have hx2 := hx1.alloc hx1.size (.cells (boolz k) 4)
      have hOr : RowB (wr.alloc (.cells (rowc (List.replicate k 0)) 3)) wr.heap.size (List.replicate k 0) := RowB.of (Blk.new wr 3 _)
      have hO2 := hOr.later ((Below.refl _ _).alloc (Nat.le_refl _) (.cells (boolz k) 4))
      have hP2 := RowBo.new (wr.alloc (.cells (rowc (List.replicate k 0)) 3)) k
      rw [World.size_alloc] at hP2
      rw [← hO] at hO2 hP2
      have hP0 : w.heap.size ≤ O + 1 := by omega
      have hFP : F ≠ O + 1 := by have := hf.lt; omega
      have hf2 := hf.later hx2
      have hb2 := hb.trans (hx2.mono hb.size)
      have HO := Lib.hid hO
      clear hx1 hx2 hOr hf hb hO s1 s0
      go_wp2_with fail
      rw [← HO.out]
      revert hO2 hP2 hf2 hb2
      generalize hW1 : (wr.alloc (.cells (rowc (List.replicate k 0)) 3)).alloc (.cells (boolz k) 4) = W1
      intro hO2 hP2 hf2 hb2
      clear hW1
      generalize hPe : O + 1 = P at *
      have hOP : O ≠ P := by omega
      clear hPe HO
      have hst : Hid (∃ R : List Int, R.length = 0 ∧ GoodL l k R ∧ s = upTo l k R ∧ RowT W1 F k (fun a => (named l (nums k) a : Int) - (named l R a : Int)) ∧ RowB W1 O (List.replicate (k - R.length) 0 ++ R) ∧ RowBo W1 P k (fun z => decide (z ∈ R)) ∧ Below w.heap.size w W1) :=
        ⟨[], rfl, .nil, by rw [hs.out]; simp [upTo, works], hf2.congr fun z _ _ => by simp [named], by simpa using hO2, hP2.congr fun z _ _ => by simp, hb2⟩
      clear hO2 hP2 hf2 hb2 hs
      go_loopw [6, 14] (fun t i wr => ∃ (R : List Int) (s : Int), R.length ≤ k ∧ i = .int .i64 ((k : Int) - 1 - R.length) ∧ t = .int .i64 s ∧ GoodL l k R ∧ s = upTo l k R ∧ RowT wr F k (fun a => (named l (nums k) a : Int) - (named l R a : Int)) ∧ RowB wr O (List.replicate (k - R.length) 0 ++ R) ∧ RowBo wr P k (fun z => decide (z ∈ R)) ∧ Below w.heap.size w wr) (fun _ i _ => (intOf i + 1).toNat)
      case atStart =>
        obtain ⟨R, h1, h2, h3, h4, h5, h6, h7⟩ := hst.out
        exact ⟨R, s, by omega, by rw [h1]; simp, rfl, h2, h3, h4, h5, h6, h7⟩
      case round =>
        clear hst
        obtain ⟨R, s, hR, rfl, rfl, hG, hs, hf, hO, hP, hb⟩ := hrel
        obtain ⟨W2, hW2⟩ : ∃ W2, W2 = wr := ⟨_, rfl⟩
        subst hW2
        have hsb := upTo_bound HV.out hG hn
        rw [← hs] at hsb
        have HS := Lib.hid hs
        have HG := Lib.hid hG
        have HR := Lib.hid hR
        obtain ⟨s0, s1⟩ := hsb
        clear hs
        by_cases hr : R.length < k
        · obtain ⟨p, hp⟩ : ∃ p, p = k - 1 - R.length := ⟨_, rfl⟩
          have ep : (k : Int) - 1 - (R.length : Int) = (p : Int) := by omega
          rw [ep]
          have HEP := Lib.hid ep
          have HPp := Lib.hid hp
          have HRr := Lib.hid hr
          have hpk : p < k := by omega
          have hpki : (p : Int) < (k : Int) := by omega
          have t1 : decide ((p : Int) ≥ 0) = true := by simp
          clear ep hp hr hR
          go_wp2_with fail
          go_loopw [15, 67] (fun b i wi => ∃ (q : Nat) (b0 : Int), q ≤ k ∧ i = .int .i64 q ∧ b = .int .i64 b0 ∧ Scan (Free l k R) (fun z => fineJ (jat l z) s) q b0 ∧ Below W2.heap.size W2 wi) (fun _ i _ => k - (intOf i).toNat)
          case atStart => exact ⟨0, -1, Nat.zero_le _, rfl, rfl, Scan.zero _ _, Below.refl _ _⟩
          case round =>
            obtain ⟨q, b0, hq, rfl, rfl, hsc, hb2⟩ := hrel
            have hbw := hb.trans (hb2.mono hb.size)
            by_cases hqk : q < k
            · have ubt : decide ((q : Int) < (k : Int)) = true := by simp; omega
              have ubt2 : (q : Int) < (k : Int) := by omega
              have cP := (hP.later hb2).at_ hqk
              have cF := (hf.later hb2).at_ hqk
              have lP := (hP.later hb2).lt
              have lF := (hf.later hb2).lt
              have hfr := Lib.hid (named_free l (hG.sub l) (q : Int) (by omega) ubt2)
              have hxl := later_cell (w := wr)
              generalize (named l (nums k) (q : Int) : Int) - (named l R (q : Int) : Int) = v at *
              have HSc := Lib.hid hsc
              clear hsc
              by_cases hin : (q : Int) ∈ R
              · rw [decide_eq_true hin] at cP
                have HN : Hid (Scan (Free l k R) (fun z => fineJ (jat l z) s) (q + 1) b0) := HSc.out.skip (fun h => (hfr.out.1 h).1 hin)
                clear hfr HSc
                go_wp2_with fail
                refine wp_region_later (by kernel_rfl) (by kernel_rfl) ?_
                repeat (go_big_quiet_step (fail))
                refine wpQuiet_nil ?_
                rintro w3 ⟨⟨_, hb3⟩, rfl⟩
                have hb4 := hb2.trans (hb3.mono hb2.size)
                clear cP cF hxl hb2 hbw hb3
                go_wp2_with fail
                go_roundw
                case rel => exact ⟨q + 1, b0, by omega, by go_num, rfl, HN.out, hb4⟩
                case measure => simp [intOf]; omega
              · rw [decide_eq_false hin] at cP
                by_cases hd : v = 0
                · subst hd
                  have HFr : Hid (Free l k R q) := hfr.out.2 ⟨hin, rfl⟩
                  by_cases h0 : b0 < 0
                  · have u1 : decide (b0 < 0) = true := by simpa using h0
                    have HN : Hid (Scan (Free l k R) (fun z => fineJ (jat l z) s) (q + 1) (q : Int)) := HSc.out.take HFr.out (.inl h0)
                    clear hfr HSc HFr hin
                    go_wp2_with fail
                    refine wp_region_later (by kernel_rfl) (by kernel_rfl) ?_
                    repeat (go_big_quiet_step (fail))
                    refine wpQuiet_nil ?_
                    rintro w3 ⟨⟨_, hb3⟩, rfl⟩
                    have hb4 := hb2.trans (hb3.mono hb2.size)
                    clear cP cF hxl hb2 hbw hb3
                    go_wp2_with fail
                    go_roundw
                    case rel => exact ⟨q + 1, (q : Int), by omega, by go_num, rfl, HN.out, hb4⟩
                    case measure => simp [intOf]; omega
                  · have u1 : decide (b0 < 0) = false := by simpa using h0
                    obtain ⟨y, rfl, hyq⟩ := HSc.out.nat h0
                    have hyk : y < k := by omega
                    have hyki : (y : Int) < (k : Int) := by omega
                    obtain ⟨g, B, m, cB, e1, hg, hj, c0, c1, c2, c3, c4, _⟩ := rA.both hbw hqk
                    subst e1
                    obtain ⟨g', B', m', cB', e1, _, hj', d0, d1, d2, d3, d4, _⟩ := rA.both hbw hyk
                    cases e1
                    have M1 := fun w => Lib.hid (fine_any (jat l q) (.slice B m cB) s w (HC.out q _ hj) s0 s1)
                    have M2 := fun w => Lib.hid (fine_any (jat l y) (.slice B' m' cB') s w (HC.out y _ hj') s0 s1)
                    have HM1 := Lib.hid M1
                    have HM2 := Lib.hid M2
                    clear hj hj' M1 M2 h0
                    by_cases hle : fineJ (jat l q) s ≤ fineJ (jat l y) s
                    · have u2 : decide (fineJ (jat l q) s ≤ fineJ (jat l y) s) = true := by simpa using hle
                      have HN : Hid (Scan (Free l k R) (fun z => fineJ (jat l z) s) (q + 1) (q : Int)) := HSc.out.take HFr.out (.inr hle)
                      clear hfr HSc HFr hin
                      generalize fineJ (jat l q) s = f1 at *
                      generalize fineJ (jat l y) s = f2 at *
                      generalize jat l q = j1 at *
                      generalize jat l y = j2 at *
                      go_wp2_with fail
                      refine wp_region_later (by kernel_rfl) (by kernel_rfl) ?_
                      iterate 22 (go_big_quiet_step ((go_at_call 61; exact later_call (HM1.out _).out)))
                      repeat (go_big_quiet_step ((go_at_call 61; exact later_call (HM2.out _).out)))
                      refine wpQuiet_nil ?_
                      rintro w3 ⟨⟨_, hb3⟩, rfl⟩
                      have hb4 := hb2.trans (hb3.mono hb2.size)
                      clear cP cF hxl hb2 hbw hb3 HM1 HM2 c0 c1 c2 c3 c4 d0 d1 d2 d3 d4
                      go_wp2_with fail
                      go_roundw
                      case rel => exact ⟨q + 1, (q : Int), by omega, by go_num, rfl, HN.out, hb4⟩
                      case measure => simp [intOf]; omega
                    · have u2 : decide (fineJ (jat l q) s ≤ fineJ (jat l y) s) = false := by simpa using hle
                      have u3 : fineJ (jat l y) s < fineJ (jat l q) s := by omega
                      have HN : Hid (Scan (Free l k R) (fun z => fineJ (jat l z) s) (q + 1) (y : Int)) := HSc.out.keep (by omega) hle
                      clear hfr HSc HFr hin hle
                      generalize fineJ (jat l q) s = f1 at *
                      generalize fineJ (jat l y) s = f2 at *
                      generalize jat l q = j1 at *
                      generalize jat l y = j2 at *
                      go_wp2_with fail
                      refine wp_region_later (by kernel_rfl) (by kernel_rfl) ?_
                      iterate 22 (go_big_quiet_step ((go_at_call 61; exact later_call (HM1.out _).out)))
                      repeat (go_big_quiet_step ((go_at_call 61; exact later_call (HM2.out _).out)))
                      refine wpQuiet_nil ?_
                      rintro w3 ⟨⟨_, hb3⟩, rfl⟩
                      have hb4 := hb2.trans (hb3.mono hb2.size)
                      clear cP cF hxl hb2 hbw hb3 HM1 HM2 c0 c1 c2 c3 c4 d0 d1 d2 d3 d4
                      go_wp2_with fail
                      go_roundw
                      case rel => exact ⟨q + 1, (y : Int), by omega, by go_num, rfl, HN.out, hb4⟩
                      case measure => simp [intOf]; omega
                · have HN : Hid (Scan (Free l k R) (fun z => fineJ (jat l z) s) (q + 1) b0) := HSc.out.skip (fun h => hd (hfr.out.1 h).2)
                  have u1 : (v == 0) = false := by simpa using hd
                  clear hfr HSc hin
                  go_wp2_with fail
                  refine wp_region_later (by kernel_rfl) (by kernel_rfl) ?_
                  repeat (go_big_quiet_step (fail))
                  refine wpQuiet_nil ?_
                  rintro w3 ⟨⟨_, hb3⟩, rfl⟩
                  have hb4 := hb2.trans (hb3.mono hb2.size)
                  clear cP cF hxl hb2 hbw hb3
                  go_wp2_with fail
                  go_roundw
                  case rel => exact ⟨q + 1, b0, by omega, by go_num, rfl, HN.out, hb4⟩
                  case measure => simp [intOf]; omega
            · obtain rfl : q = k := by omega
              have ubt : decide ((q : Int) < (q : Int)) = false := by simp
              have hpick : Pick l q R b0 := by
                refine Scan.pick l ?_ (fun i a ha => (validB_up HV.out i a ha).2) HRr.out
                rw [← HS.out]
                exact hsc
              have HPk := Lib.hid hpick
              obtain ⟨b, rfl⟩ := Int.eq_ofNat_of_zero_le hpick.1.1
              have hbk : b < q := by have := hpick.1.2.1; omega
              have hbki : (b : Int) < (q : Int) := by omega
              clear hsc hpick
              have O3 := hO.later hb2
              have P3 := hP.later hb2
              have F3 := hf.later hb2
              have lO := O3.lt
              have lP := P3.lt
              have fO := O3.frozen p
              have fP := P3.frozen b
              obtain ⟨v0, hv0⟩ : ∃ v0, (List.replicate (q - R.length) 0 ++ R)[p]? = some v0 := ⟨_, List.getElem?_eq_getElem (by rw [List.length_append, List.length_replicate]; have := HR.out; omega)⟩
              have cO := O3.at_ hv0
              have cP := P3.at_ hbk
              have e1 := O3.set_ p (b : Int)
              rw [HPp.out, put_at HRr.out, ← HPp.out] at e1
              have O4 := e1.far (p := ⟨P, b, none⟩) hOP (.bool true)
              have P4 := (P3.far (p := ⟨O, p, none⟩) (show P ≠ O by omega) (.int .i64 b)).set_ b true
              have F4 := (F3.far (p := ⟨O, p, none⟩) hFO (.int .i64 b)).far (p := ⟨P, b, none⟩) hFP (.bool true)
              have B4 := (hbw.setCell (p := ⟨O, p, none⟩) hO0 (.int .i64 b)).setCell (p := ⟨P, b, none⟩) hP0 (.bool true)
              have hall : Hid (RowB ((wr.setCell ⟨O, p, none⟩ (.int .i64 b)).setCell ⟨P, b, none⟩ (.bool true)) O (List.replicate (q - (R.length + 1)) 0 ++ (b : Int) :: R) ∧
                  RowBo ((wr.setCell ⟨O, p, none⟩ (.int .i64 b)).setCell ⟨P, b, none⟩ (.bool true)) P q (fun z => decide (z ∈ (b : Int) :: R)) ∧
                  RowT ((wr.setCell ⟨O, p, none⟩ (.int .i64 b)).setCell ⟨P, b, none⟩ (.bool true)) F q (fun a => (named l (nums q) a : Int) - (named l R a : Int)) ∧
                  Below w.heap.size w ((wr.setCell ⟨O, p, none⟩ (.int .i64 b)).setCell ⟨P, b, none⟩ (.bool true))) :=
                ⟨O4, P4.congr fun z _ _ => by by_cases ez : z = (b : Int) <;> simp [ez], F4, B4⟩
              clear e1 O4 P4 F4 B4 O3 P3 F3 hO hP hf hb hb2 hbw hv0
              have hOPn : O ≠ P := hOP
              go_upto_region 29 with (fail)
              revert hall
              generalize (wr.setCell ⟨O, p, none⟩ (.int .i64 b)).setCell ⟨P, b, none⟩ (.bool true) = w4
              intro hall
              clear cO cP fO fP lO lP
              obtain ⟨O4, P4, F4, B4⟩ := hall
              obtain ⟨g, B, m, cB, e1, hg, hj, c0, c1, c2, c3, c4, hrow⟩ := rA.both B4 hbk
              subst e1
              have HRow := Lib.hid hrow
              have hmj : (jat l b).after.length = m := hrow.1
              have hup := validB_up HV.out (b : Int)
              have HU := Lib.hid hup
              have HGn : Hid (GoodL l q ((b : Int) :: R)) := .cons HG.out HPk.out
              have hnb := upTo_bound HV.out HGn.out hn
              have hnx : upTo l q ((b : Int) :: R) = s - (jat l b).work := by rw [upTo_next, HS.out]
              rw [hnx] at hnb
              have HNx := Lib.hid hnx
              have HNm := Lib.hid (fun a => named_one l R (b : Int) a)
              have hlenb := validB_len HV.out (b : Int)
              obtain ⟨n0, n1⟩ := hnb
              have HLR : Hid (R.length < q) := HRr.out
              clear hj hup hnx hrow
              generalize jat l b = j at *
              have F5 := F4.congr (g := fun a => (named l (nums q) a : Int) - (named l R a : Int) - ((j.after.take 0).count a : Int)) (fun z _ _ => by simp)
              go_wp2_with fail
              clear c0 c1 c2 c3 c4 F4
              go_loopw [123] (fun i wi => ∃ y : Nat, y ≤ m ∧ i = .int .i64 y ∧ RowT wi F q (fun a => (named l (nums q) a : Int) - (named l R a : Int) - ((j.after.take y).count a : Int)) ∧ RowB wi O (List.replicate (q - (R.length + 1)) 0 ++ (b : Int) :: R) ∧ RowBo wi P q (fun z => decide (z ∈ (b : Int) :: R)) ∧ Below w.heap.size w wi) (fun i _ => m - (intOf i).toNat)
              case atStart => exact ⟨0, Nat.zero_le _, rfl, F5, O4, P4, B4⟩
              case round =>
                clear F5 O4 P4 B4
                obtain ⟨y, hy, rfl, hf, hO, hP, hb⟩ := hrel
                by_cases hym : y < m
                · have ubt : decide ((y : Int) < (m : Int)) = true := by simp; omega
                  have ubt2 : (y : Int) < (m : Int) := by omega
                  obtain ⟨g2, e1, hg2, hc⟩ := (HRow.out.later hb).at_ hym
                  cases e1
                  have hxq : j.after[y]? = some (j.after.getD y 0) := getD_get (by rw [hmj]; exact hym)
                  have hx := HU.out _ (List.mem_of_getElem? hxq)
                  have hct := Lib.hid (fun a => count_take (a := a) hxq)
                  clear hxq
                  generalize j.after.getD y 0 = x at *
                  obtain ⟨x0, x1⟩ := hx
                  obtain ⟨i, rfl⟩ := Int.eq_ofNat_of_zero_le x0
                  have hi : i < q := by omega
                  have hin : (i : Int) < (q : Int) := by omega
                  have cF := hf.at_ hi
                  have fF := hf.frozen i
                  have lF := hf.lt
                  have b1 : named l (nums q) i ≤ 64 * q := by have := named_le HV.out (nums q) i; rwa [nums_length] at this
                  have b3 : named l R i ≤ 64 * q := by have := named_le HV.out R i; have := HLR.out; omega
                  have b2 : (j.after.take y).count (i : Int) ≤ 64 := by
                    have h1 : (j.after.take y).count (i : Int) ≤ (j.after.take y).length := List.count_le_length
                    rw [List.length_take] at h1
                    omega
                  have hset := hf.set_ i ((named l (nums q) i : Int) - (named l R i : Int) - ((j.after.take y).count (i : Int) : Int) - 1)
                  have hset2 := hset.congr (g := fun a => (named l (nums q) a : Int) - (named l R a : Int) - ((j.after.take (y + 1)).count a : Int)) (fun z _ _ => by
                    rw [hct.out z]
                    by_cases e : z = (i : Int)
                    · subst e; simp; omega
                    · simp [e])
                  have HSt := Lib.hid hset2
                  have HOt := Lib.hid (hO.far (p := ⟨F, i, none⟩) (show O ≠ F by omega) (.int .i64 ((named l (nums q) i : Int) - (named l R i : Int) - ((j.after.take y).count (i : Int) : Int) - 1)))
                  have HPt := Lib.hid (hP.far (p := ⟨F, i, none⟩) (show P ≠ F by omega) (.int .i64 ((named l (nums q) i : Int) - (named l R i : Int) - ((j.after.take y).count (i : Int) : Int) - 1)))
                  have hbs := Lib.hid (hb.setCell (p := ⟨F, i, none⟩) hF0 (.int .i64 ((named l (nums q) i : Int) - (named l R i : Int) - ((j.after.take y).count (i : Int) : Int) - 1)))
                  clear hset hset2 hf hb hct x0 x1 hO hP
                  generalize named l (nums q) (i : Int) = v1 at *
                  generalize named l R (i : Int) = v3 at *
                  generalize List.count (i : Int) (j.after.take y) = v2 at *
                  go_wp2_with fail
                  go_roundw
                  case rel => exact ⟨y + 1, by omega, by go_num, HSt.out, HOt.out, HPt.out, hbs.out⟩
                  case measure => simp [intOf]; omega
                · obtain rfl : y = m := by omega
                  have ubt : decide ((y : Int) < (y : Int)) = false := by simp
                  have hf2 := hf.congr (g := fun a => (named l (nums q) a : Int) - (named l ((b : Int) :: R) a : Int)) (fun z _ _ => by
                    rw [HNm.out z, List.take_of_length_le (by omega)]; omega)
                  go_wp2_with fail
                  go_roundw
                  case rel =>
                    refine ⟨(b : Int) :: R, s - j.work, ?_, ?_, rfl, HGn.out, HNx.out.symm, hf2, hO, hP, hb⟩
                    · have := HLR.out; simp; omega
                    · have := HEP.out
                      rw [List.length_cons]
                      show Value.int .i64 _ = Value.int .i64 _
                      congr 1
                      omega
                  case measure => simp [intOf]
        · have ep : (k : Int) - 1 - (R.length : Int) = -1 := by omega
          have hRk : R.length = k := by omega
          rw [ep]
          have t1 : decide ((-1 : Int) ≥ 0) = false := by decide
          rw [hRk, Nat.sub_self, List.replicate_zero, List.nil_append] at hO
          have rO := RowH.of_row (n := k) hO hRk
          have M3 := Lib.hid (late_any A (some ⟨O, 0, none⟩) k c k k l R W2 (rA.later hb) rO HC.out (fun x hx => (hG.sub l).2 x hx) hn)
          have HRk := Lib.hid hRk
          clear ep hRk hf hP hO
          go_wp2_with fail
          refine M3.out.mono ?_
          rintro e w5 ⟨rfl, hb5⟩
          have hfin := hb.trans (hb5.mono hb.size)
          have rO5 := rO.later hb5
          go_wp2_with fail
          (try simp only [Exit.inBlock, Exit.then]); refine bodyPost_ret (results_tmp3 rfl _ _ _) rfl ?_
          exact ⟨O, R, rfl, HG.out, HRk.out, rO5, hfin⟩
end Go.Proofs.Ytnfcigbiebbjdaa
