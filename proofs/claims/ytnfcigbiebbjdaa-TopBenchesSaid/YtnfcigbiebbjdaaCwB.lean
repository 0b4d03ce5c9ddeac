/-
  Crowd and Crowded as the document makes them; what Sweep and Crowded do with jobs that are not valid, and with none.
  Conditions: the jobs are valid or not; the slices start at the heads of blocks.
-/
import Derived.Test.YtnfcigbiebbjdaaCwA
import Derived.WalkMore
namespace Go.Proofs.Ytnfcigbiebbjdaa
open Go.RowKit

theorem calm_ne2 {w : World} {A : Option Addr} {n : Nat} {l : List Jb} (rA : JobsH w A n l) (hv : validB l = true) {j : Nat} (hj : j < n) : (jat l j).work ≠ 0 := by
  have hlt : j < l.length := by rw [rA.1]; exact hj
  have hok : l[j]? = some (l.getD j Jb.none) := by rw [List.getD_eq_getElem?_getD, List.getElem?_eq_getElem hlt]; rfl
  have h1 := (validB_calm hv hok).1
  rw [← jat_get hok] at h1
  omega
theorem winS_pos {l : List Jb} (hv : validB l = true) (r d : Int) (j : Nat) (hw : (jat l j).work ≠ 0) (h : r ≤ (jat l j).rel ∧ (jat l j).due ≤ d) : 0 < winS l r d (j + 1) := by
  rw [winS_succ, if_pos h]
  have := winS_nonneg (l := l) (r := r) (d := d) (k := j) fun i => (jat_calm hv i).1
  have := (jat_calm hv j).1
  omega
set_option maxRecDepth 100000 in
set_option maxHeartbeats 2000000 in
theorem rCrowd_any (A : Option Addr) (n c : Nat) (l : List Jb) (r d : Int) (w : World) (rA : JobsH w A n l) (hv : validB l = true) (hr0 : 0 ≤ r) (hr1 : r ≤ 640000) (hd0 : 0 ≤ d) (hd1 : d ≤ 640000) :
    Calls Try.prog 39 #[.slice A n c, .int .i64 r, .int .i64 d] w fun e w' => e = .returned (.tuple #[.int .i64 (r - d + winS l r d n), .bool (decide (0 < winS l r d n))]) ∧ w = w' := by
  have hn : n ≤ 64 := by
    have h := hv
    unfold validB at h
    simp only [Bool.and_eq_true, decide_eq_true_eq] at h
    rw [← rA.1]; exact h.1
  have HV := Lib.hid hv
  clear hv
  go_enter Try.func39, Try.ntmps39
  go_wp2_with fail
  go_loopw [8, 9, 10] (fun u8 u9 u10 wr => ∃ j : Nat, j ≤ n ∧ u10 = .int .i64 j ∧ u8 = .int .i64 (r - d + winS l r d j) ∧ u9 = .bool (decide (0 < winS l r d j)) ∧ w = wr) (fun _ _ i _ => n - (intOf i).toNat)
  case atStart => exact ⟨0, Nat.zero_le _, rfl, by rw [show winS l r d 0 = 0 from rfl, Int.add_zero], rfl, rfl⟩
  case round =>
    obtain ⟨j, hj, rfl, rfl, rfl, rfl⟩ := hrel
    have hs0 := winS_nonneg (l := l) (r := r) (d := d) (k := j) fun i => (jat_calm HV.out i).1
    have hs1 := winS_cap HV.out r d j
    by_cases hjn : j < n
    · have hbj : decide ((j : Int) < (n : Int)) = true := by simp; omega
      have hbj2 : (j : Int) < (n : Int) := by omega
      obtain ⟨g, B, mB, cB, e1, _, hj', c0, c1, c2, c3, c4, _⟩ := rA.both (Below.refl _ _) hjn
      subst e1
      have hW := Lib.hid (winS_succ l r d j)
      have hP := Lib.hid (winS_pos HV.out r d j (calm_ne2 rA HV.out hjn))
      have hc := jat_calm HV.out j
      have hw0 := hc.1
      have hw1 := hc.2.1
      clear hj' hc
      obtain ⟨x0, hx0⟩ : ∃ x0, x0 = (jat l j).work := ⟨_, rfl⟩
      obtain ⟨x1, hx1⟩ : ∃ x1, x1 = (jat l j).rel := ⟨_, rfl⟩
      obtain ⟨x2, hx2⟩ : ∃ x2, x2 = (jat l j).due := ⟨_, rfl⟩
      rw [← hx0] at c0 hW hw0 hw1
      rw [← hx1] at c1 hW hP
      rw [← hx2] at c2 hW hP
      obtain ⟨s, hs⟩ : ∃ s, s = winS l r d j := ⟨_, rfl⟩
      rw [← hs] at hW hs0 hs1 ⊢
      clear hx0 hx1 hx2 hs
      by_cases t1 : x1 ≥ r
      · have u1 : decide (x1 ≥ r) = true := decide_eq_true t1
        by_cases t2 : x2 ≤ d
        · have u2 : decide (x2 ≤ d) = true := decide_eq_true t2
          have hW2 : Hid (r - d + winS l r d (j + 1) = r - d + s + x0) := by show _ = _; rw [hW.out, if_pos ⟨t1, t2⟩]; omega
          have hP2 : Hid (decide (0 < winS l r d (j + 1)) = true) := decide_eq_true (hP.out ⟨t1, t2⟩)
          clear hW hP
          go_wp2_with fail
          go_roundw
          case rel => exact ⟨j + 1, by omega, by go_num, by rw [hW2.out], by rw [hP2.out], trivial⟩
          case measure => simp [intOf]; omega
        · have u2 : decide (x2 ≤ d) = false := decide_eq_false t2
          have hW2 : Hid (winS l r d (j + 1) = s) := by show _ = _; rw [hW.out, if_neg (fun h => t2 h.2), Int.add_zero]
          clear hW hP
          go_wp2_with fail
          go_roundw
          case rel => exact ⟨j + 1, by omega, by go_num, by rw [hW2.out], by rw [hW2.out], trivial⟩
          case measure => simp [intOf]; omega
      · have u1 : decide (x1 ≥ r) = false := decide_eq_false t1
        have hW2 : Hid (winS l r d (j + 1) = s) := by show _ = _; rw [hW.out, if_neg (fun h => t1 h.1), Int.add_zero]
        clear hW hP
        go_wp2_with fail
        go_roundw
        case rel => exact ⟨j + 1, by omega, by go_num, by rw [hW2.out], by rw [hW2.out], trivial⟩
        case measure => simp [intOf]; omega
    · obtain rfl : j = n := by omega
      have hbj : decide ((j : Int) < (j : Int)) = false := by simp
      obtain ⟨s, hs⟩ : ∃ s, winS l r d j = s := ⟨_, rfl⟩
      rw [hs]
      have HS := Lib.hid hs
      clear hs hs0 hs1
      go_wp2_with fail
      (try simp only [Exit.inBlock, Exit.then]); refine bodyPost_ret (results_tmp2 rfl _ _ _) rfl ?_
      exact ⟨by rw [HS.out]; rfl, rfl⟩
/-- The worst window so far, in slots. -/
def CwV (c : Cw) (u4 u5 u6 u7 : Value) : Prop := u4 = .int .i64 c.r ∧ u5 = .int .i64 c.d ∧ u6 = .int .i64 c.most ∧ u7 = .bool c.any
set_option maxRecDepth 100000 in
set_option maxHeartbeats 4000000 in
theorem rCrowded_yes (A : Option Addr) (n c : Nat) (l : List Jb) (w : World) (rA : JobsH w A n l) (hv : validB l = true) :
    Calls Try.prog 38 #[.slice A n c] w fun e w' => e = .returned (.tuple #[.int .i64 (cwAll l n n).r, .int .i64 (cwAll l n n).d]) ∧ Below w.heap.size w w' := by
  have hn : n ≤ 64 := by
    have h := hv
    unfold validB at h
    simp only [Bool.and_eq_true, decide_eq_true_eq] at h
    rw [← rA.1]; exact h.1
  have HV := Lib.hid hv
  clear hv
  go_enter Try.func38, Try.ntmps38
  go_wp2_with fail
  go_loopw [4, 5, 6, 7, 8] (fun u4 u5 u6 u7 u8 wr => ∃ i : Nat, i ≤ n ∧ u8 = .int .i64 i ∧ CwV (cwAll l n i) u4 u5 u6 u7 ∧ Below w.heap.size w wr) (fun _ _ _ _ i _ => n - (intOf i).toNat)
  case atStart => exact ⟨0, Nat.zero_le _, rfl, ⟨rfl, rfl, rfl, rfl⟩, Below.refl _ _⟩
  case round =>
    obtain ⟨i, hi, rfl, ⟨rfl, rfl, rfl, rfl⟩, hb⟩ := hrel
    by_cases hlt : i < n
    · have hbt : decide ((i : Int) < (n : Int)) = true := by simp; omega
      have hbt2 : (i : Int) < (n : Int) := by omega
      go_wp2_with fail
      go_loopw [4, 5, 6, 7, 9] (fun u4 u5 u6 u7 u9 wm => ∃ k : Nat, k ≤ n ∧ u9 = .int .i64 k ∧ CwV (cwRow l n i (cwAll l n i) k) u4 u5 u6 u7 ∧ Below w.heap.size w wm) (fun _ _ _ _ i _ => n - (intOf i).toNat)
      case atStart => exact ⟨0, Nat.zero_le _, rfl, ⟨rfl, rfl, rfl, rfl⟩, hb⟩
      case round =>
        clear hb
        obtain ⟨k, hk, rfl, ⟨rfl, rfl, rfl, rfl⟩, hb⟩ := hrel
        by_cases hkn : k < n
        · have hbk : decide ((k : Int) < (n : Int)) = true := by simp; omega
          have hbk2 : (k : Int) < (n : Int) := by omega
          obtain ⟨g, B, mB, cB, e1, _, hj, a0, a1, a2, a3, a4, _⟩ := rA.both hb hlt
          subst e1
          obtain ⟨g', B', mB', cB', e1, _, hj', c0, c1, c2, c3, c4, _⟩ := rA.both hb hkn
          cases e1
          have hai := (jat_calm HV.out i).2.2
          have haj := (jat_calm HV.out k).2.2
          have HSt : Hid (cwRow l n i (cwAll l n i) (k + 1) = (cwRow l n i (cwAll l n i) k).step (winS l (jat l i).rel (jat l k).due n) (jat l i).rel (jat l k).due) := rfl
          have MC := fun nq => Lib.hid (rCrowd_any (some ⟨g, 0, none⟩) n c l (jat l i).rel (jat l k).due (wr.drewN nq) (rA.later (hb.trans ((below_drewN (Below.refl _ _) nq).mono hb.size))) HV.out hai.2.2.1 hai.2.2.2 haj.1 haj.2.1)
          obtain ⟨r, hr⟩ : ∃ r, r = (jat l i).rel := ⟨_, rfl⟩
          obtain ⟨d, hd⟩ : ∃ d, d = (jat l k).due := ⟨_, rfl⟩
          rw [← hr] at a1
          rw [← hd] at c2
          rw [← hr, ← hd] at HSt MC
          obtain ⟨s, hs⟩ : ∃ s, s = winS l r d n := ⟨_, rfl⟩
          rw [← hs] at HSt MC
          obtain ⟨cw, hcw⟩ : ∃ cw, cw = cwRow l n i (cwAll l n i) k := ⟨_, rfl⟩
          rw [← hcw] at HSt ⊢
          obtain ⟨v, hv⟩ : ∃ v, v = r - d + s := ⟨_, rfl⟩
          rw [← hv] at MC
          have HV1 : Hid (r + s - d = v) := by show _ = _; omega
          have HBb : ∀ nq, Hid (Below w.heap.size w (wr.drewN nq)) := fun nq => hb.trans ((below_drewN (Below.refl _ _) nq).mono hb.size)
          have HY : Hid (0 < s → cw.takes v r d → cwRow l n i (cwAll l n i) (k + 1) = ⟨true, v, r, d⟩) := fun h1 h2 => by
            rw [HSt.out]
            unfold Cw.step
            rw [HV1.out]
            exact if_pos ⟨h1, h2⟩
          have HN : Hid (¬ (0 < s ∧ cw.takes v r d) → cwRow l n i (cwAll l n i) (k + 1) = cw) := fun h1 => by
            rw [HSt.out]
            unfold Cw.step
            rw [HV1.out]
            exact if_neg h1
          clear hr hd hs hcw hv HSt HV1 hai haj hj hj' a0 a2 a3 a4 c0 c1 c3 c4 hb
          go_wp2_with fail
          go_quiet (fail)
          go_wp2_with fail
          refine (MC _).out.mono ?_
          rintro e w' ⟨rfl, rfl⟩
          clear MC
          by_cases hsp : 0 < s
          · have hs2 : decide (0 < s) = true := decide_eq_true hsp
            cases hany : cw.any
            · have HE := Lib.hid (HY.out hsp (.inl hany))
              clear HY HN
              go_wp2_with fail
              go_roundw
              case rel => exact ⟨k + 1, by omega, by go_num, by rw [HE.out]; exact ⟨by first | rfl | rw [h4], rfl, by first | rfl | rw [h2], rfl⟩, (HBb _).out⟩
              case measure => simp [intOf]; omega
            · by_cases h1 : v > cw.most
              · have u1 : decide (v > cw.most) = true := decide_eq_true h1
                have HE := Lib.hid (HY.out hsp (.inr (.inl h1)))
                clear HY HN
                go_wp2_with fail
                go_roundw
                case rel => exact ⟨k + 1, by omega, by go_num, by rw [HE.out]; exact ⟨by first | rfl | rw [h4], rfl, by first | rfl | rw [h2], rfl⟩, (HBb _).out⟩
                case measure => simp [intOf]; omega
              · have u1 : decide (v > cw.most) = false := decide_eq_false h1
                by_cases h2 : v = cw.most
                · have u2 : (v == cw.most) = true := by simpa using h2
                  by_cases h3 : r < cw.r
                  · have u3 : decide (r < cw.r) = true := decide_eq_true h3
                    have HE := Lib.hid (HY.out hsp (.inr (.inr ⟨h2.symm, .inl h3⟩)))
                    clear HY HN
                    go_wp2_with fail
                    go_roundw
                    case rel => exact ⟨k + 1, by omega, by go_num, by rw [HE.out]; exact ⟨by first | rfl | rw [h4], rfl, by first | rfl | rw [h2], rfl⟩, (HBb _).out⟩
                    case measure => simp [intOf]; omega
                  · have u3 : decide (r < cw.r) = false := decide_eq_false h3
                    by_cases h4 : r = cw.r
                    · have u4 : (r == cw.r) = true := by simpa using h4
                      by_cases h5 : d < cw.d
                      · have u5 : decide (d < cw.d) = true := decide_eq_true h5
                        have HE := Lib.hid (HY.out hsp (.inr (.inr ⟨h2.symm, .inr ⟨h4, h5⟩⟩)))
                        clear HY HN
                        go_wp2_with fail
                        go_roundw
                        case rel => exact ⟨k + 1, by omega, by go_num, by rw [HE.out]; exact ⟨by first | rfl | rw [h4], rfl, by first | rfl | rw [h2], rfl⟩, (HBb _).out⟩
                        case measure => simp [intOf]; omega
                      · have u5 : decide (d < cw.d) = false := decide_eq_false h5
                        have HE := Lib.hid (HN.out fun h => by rcases h.2 with h | h | ⟨_, h | h⟩ <;> first | (rw [hany] at h; cases h) | omega)
                        clear HY HN
                        go_wp2_with fail
                        go_roundw
                        case rel => exact ⟨k + 1, by omega, by go_num, by rw [HE.out]; exact ⟨rfl, rfl, rfl, by first | rfl | rw [hany]⟩, (HBb _).out⟩
                        case measure => simp [intOf]; omega
                    · have u4 : (r == cw.r) = false := by simpa using h4
                      have HE := Lib.hid (HN.out fun h => by rcases h.2 with h | h | ⟨_, h | h⟩ <;> first | (rw [hany] at h; cases h) | omega)
                      clear HY HN
                      go_wp2_with fail
                      go_roundw
                      case rel => exact ⟨k + 1, by omega, by go_num, by rw [HE.out]; exact ⟨rfl, rfl, rfl, by first | rfl | rw [hany]⟩, (HBb _).out⟩
                      case measure => simp [intOf]; omega
                · have u2 : (v == cw.most) = false := by simpa using h2
                  have HE := Lib.hid (HN.out fun h => by rcases h.2 with h | h | ⟨_, h | h⟩ <;> first | (rw [hany] at h; cases h) | omega)
                  clear HY HN
                  go_wp2_with fail
                  go_roundw
                  case rel => exact ⟨k + 1, by omega, by go_num, by rw [HE.out]; exact ⟨rfl, rfl, rfl, by first | rfl | rw [hany]⟩, (HBb _).out⟩
                  case measure => simp [intOf]; omega
          · have hs2 : decide (0 < s) = false := decide_eq_false hsp
            have HE := Lib.hid (HN.out fun h => hsp h.1)
            clear HY HN
            go_wp2_with fail
            go_roundw
            case rel => exact ⟨k + 1, by omega, by go_num, by rw [HE.out]; exact ⟨by first | rfl | rw [h4], rfl, by first | rfl | rw [h2], rfl⟩, (HBb _).out⟩
            case measure => simp [intOf]; omega
        · obtain rfl : k = n := by omega
          have hbk : decide ((k : Int) < (k : Int)) = false := by simp
          have HF : Hid (CwV (cwAll l k (i + 1)) (.int .i64 (cwRow l k i (cwAll l k i) k).r) (.int .i64 (cwRow l k i (cwAll l k i) k).d) (.int .i64 (cwRow l k i (cwAll l k i) k).most) (.bool (cwRow l k i (cwAll l k i) k).any)) := ⟨rfl, rfl, rfl, rfl⟩
          generalize cwRow l k i (cwAll l k i) k = cw at *
          go_wp2_with fail
          go_roundw
          case rel => exact ⟨i + 1, by omega, by go_num, HF.out, hb⟩
          case measure => simp [intOf]; omega
    · obtain rfl : i = n := by omega
      have hbt : decide ((i : Int) < (i : Int)) = false := by simp
      obtain ⟨cw, hcw⟩ : ∃ cw, cwAll l i i = cw := ⟨_, rfl⟩
      rw [hcw]
      have HS := Lib.hid hcw
      clear hcw
      go_wp2_with fail
      (try simp only [Exit.inBlock, Exit.then]); refine bodyPost_ret (results_tmp2 rfl _ _ _) rfl ?_
      exact ⟨by rw [HS.out]; rfl, hb⟩
set_option maxHeartbeats 1000000 in
theorem Crowded_none (A : Option Addr) (c : Nat) (w : World) (rA : JobsH w A 0 []) : Calls Try.prog 36 #[.slice A 0 c] w fun e w' => e = .returned (.tuple #[.int .i64 0, .int .i64 0, .int .i64 6]) ∧ Below w.heap.size w w' := by
  have M1 := Lib.hid (Check_yes A 0 c [] w rA rfl)
  go_enter Try.func36, Try.ntmps36
  go_wp2_with fail
  refine M1.out.mono ?_
  rintro e w1 ⟨rfl, hb1⟩
  have hn0 : (((0 : Nat) : Int) == 0) = true := by decide
  clear M1
  go_wp2_with fail
  (try simp only [Exit.inBlock, Exit.then]); refine bodyPost_ret (results_tmp3 rfl _ _ _) rfl ?_
  exact ⟨rfl, hb1⟩
set_option maxHeartbeats 1000000 in
theorem Crowded_no (A : Option Addr) (n c : Nat) (l : List Jb) (w : World) (rA : JobsH w A n l) (hm : ∀ (k : Nat) (j : Jb), l[k]? = some j → j.after.length ≤ 1000) (hn : n ≤ 1000) (hv : validB l = false) :
    Calls Try.prog 36 #[.slice A n c] w fun e w' => e = .returned (.tuple #[.int .i64 0, .int .i64 0, .int .i64 1]) ∧ Below w.heap.size w w' := by
  have M1 := Lib.hid (Check_no A n c l w rA hm hn hv)
  go_enter Try.func36, Try.ntmps36
  go_wp2_with fail
  refine M1.out.mono ?_
  rintro e w1 ⟨rfl, hb1⟩
  clear M1
  go_wp2_with fail
  (try simp only [Exit.inBlock, Exit.then]); refine bodyPost_ret (results_tmp3 rfl _ _ _) rfl ?_
  exact ⟨rfl, hb1⟩
set_option maxRecDepth 100000 in
set_option maxHeartbeats 2000000 in
theorem Sweep_no (A : Option Addr) (n c : Nat) (l : List Jb) (w : World) (rA : JobsH w A n l) (hm : ∀ (k : Nat) (j : Jb), l[k]? = some j → j.after.length ≤ 1000) (hn : n ≤ 1000) (hv : validB l = false) :
    Calls Try.prog 34 #[.slice A n c] w fun e w' => e = .returned (.tuple #[.slice none 0 0, .int .i64 0, .int .i64 1]) ∧ Below w.heap.size w w' := by
  have hw2 : Below w.heap.size w (w.alloc (.cells #[.slice A n c] 22)) := (Below.refl _ _).alloc (Nat.le_refl _) _
  have M1 := Lib.hid (Check_no A n c l _ (rA.later hw2) hm hn hv)
  have k2 := Blk.new w 22 #[.slice A n c]
  have x0 := k2.cell
  have y0 := k2.lt
  go_enter Try.func34, Try.ntmps34
  go_wp2_with fail
  go_step3
  go_wp2_with fail
  refine M1.out.mono ?_
  rintro e w1 ⟨rfl, hb1⟩
  have hbf := Lib.hid (hw2.trans (hb1.mono hw2.size))
  clear M1 hb1 hw2
  go_wp2_with fail
  (try rw [Exit.noGoto_ret])
  (try simp only [Exit.inBlock, Exit.then]); refine bodyPost_ret (results_tmp3 rfl _ _ _) rfl ?_
  exact ⟨rfl, hbf.out⟩
end Go.Proofs.Ytnfcigbiebbjdaa
