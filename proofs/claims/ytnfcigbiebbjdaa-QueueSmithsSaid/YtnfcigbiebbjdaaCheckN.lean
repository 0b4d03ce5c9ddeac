/-
  Jobs that are not valid are refused.
  Conditions: the slices start at the heads of blocks; what a job comes after has not more than 1000 numbers.
-/
import Derived.Test.YtnfcigbiebbjdaaLL
namespace Go.Proofs.Ytnfcigbiebbjdaa
open Go.RowKit

set_option maxHeartbeats 1000000 in
theorem rising_any (A : Option Addr) (n c : Nat) (lim : Int) (l : List Int) (w : World) (rA : RowH w A n l) (hn : n ≤ 1000) :
    Calls Try.prog 78 #[.slice A n c, .int .i64 lim] w fun e w' => e = .returned (.bool (riseB lim (-1) l)) ∧ w = w' := by
  have HR : Hid (riseB lim (-1) l = riseB lim (-1) (l.drop 0)) := rfl
  go_enter Try.func78, Try.ntmps78
  go_wp2_with fail
  go_loopw [5, 10] (fun t i wr => ∃ (k : Nat) (last : Int), k ≤ n ∧ i = .int .i64 k ∧ t = .int .i64 last ∧ Hid (riseB lim (-1) l = riseB lim last (l.drop k)) ∧ w = wr) (fun _ i _ => n - (intOf i).toNat)
  case atStart => exact ⟨0, -1, Nat.zero_le _, rfl, rfl, HR, rfl⟩
  case round =>
    clear HR
    obtain ⟨k, last, hk, rfl, rfl, hL, rfl⟩ := hrel
    by_cases hlt : k < n
    · have hbt : decide ((k : Int) < (n : Int)) = true := by simp; omega
      have hbt2 : (k : Int) < (n : Int) := by omega
      obtain ⟨g, rfl, hg, hc⟩ := rA.at_ hlt
      have hl := getD_get (o := l) (k := k) (by rw [rA.1]; exact hlt)
      have HSt := Lib.hid (riseB_step (lim := lim) (last := last) hl)
      clear hl
      generalize l.getD k 0 = x at *
      by_cases x1 : last < x
      · have d1 : decide (x ≤ last) = false := by simp; omega
        have d2 : ¬ x ≤ last := by omega
        by_cases x2 : x < lim
        · have d3 : decide (x ≥ lim) = false := by simp; omega
          have d4 : ¬ lim ≤ x := by omega
          have HN : Hid (riseB lim (-1) l = riseB lim x (l.drop (k + 1))) := by
            show _ = _
            rw [hL.out, HSt.out, decide_eq_true x1, decide_eq_true x2]; rfl
          clear hL HSt
          go_wp2_with fail
          go_roundw
          case rel => exact ⟨k + 1, x, by omega, by go_num, rfl, HN, trivial⟩
          case measure => simp [intOf]; omega
        · have d3 : decide (x ≥ lim) = true := by simp; omega
          have d4 : lim ≤ x := by omega
          have HN : Hid (riseB lim (-1) l = false) := by
            show _ = _
            rw [hL.out, HSt.out, decide_eq_false x2]; simp
          clear hL HSt
          go_wp2_with fail
          go_ret
          exact ⟨by rw [HN.out]; rfl, rfl⟩
      · have d1 : decide (x ≤ last) = true := by simp; omega
        have d2 : x ≤ last := by omega
        have HN : Hid (riseB lim (-1) l = false) := by
          show _ = _
          rw [hL.out, HSt.out, decide_eq_false x1]; simp
        clear hL HSt
        go_wp2_with fail
        go_ret
        exact ⟨by rw [HN.out]; rfl, rfl⟩
    · obtain rfl : k = n := by omega
      have hbt : decide ((k : Int) < (k : Int)) = false := by simp
      have HN : Hid (riseB lim (-1) l = true) := by
        show _ = _
        rw [hL.out, List.drop_of_length_le (by rw [rA.1]; exact Nat.le_refl _)]; rfl
      go_wp2_with fail
      go_ret
      exact ⟨by rw [HN.out]; rfl, rfl⟩

set_option maxRecDepth 100000 in
set_option maxHeartbeats 4000000 in
theorem Check_no (A : Option Addr) (n c : Nat) (l : List Jb) (w : World) (rA : JobsH w A n l) (hm : ∀ (k : Nat) (j : Jb), l[k]? = some j → j.after.length ≤ 1000) (hn : n ≤ 1000) (hv : validB l = false) :
    Calls Try.prog 50 #[.slice A n c] w fun e w' => e = .returned (.int .i64 1) ∧ Below w.heap.size w w' := by
  have hV : Hid ((decide ((n : Int) ≤ 64) && allB 0 (l.drop 0)) = false) := by
    show _ = _
    rw [← hv]; unfold validB; rw [rA.1]
    congr 1
    simp
    omega
  have HM := Lib.hid hm
  clear hm hv
  have hd : decide ((n : Int) ≤ 64) = decide ((n : Int) ≤ 64) := rfl
  generalize hdd : decide ((n : Int) ≤ 64) = d at hV hd
  clear hd
  go_enter Try.func50, Try.ntmps50
  go_wp2_with fail
  go_loopw [3, 11] (fun t i wr => ∃ (k : Nat) (b : Bool), k ≤ n ∧ i = .int .i64 k ∧ t = .bool b ∧ Hid ((b && allB k (l.drop k)) = false) ∧ Below w.heap.size w wr) (fun _ i _ => n - (intOf i).toNat)
  case atStart => exact ⟨0, d, Nat.zero_le _, rfl, rfl, hV, Below.refl _ _⟩
  case round =>
    clear hV hdd
    obtain ⟨k, b, hk, rfl, rfl, hB, hb⟩ := hrel
    by_cases hlt : k < n
    · have hbt : decide ((k : Int) < (n : Int)) = true := by simp; omega
      have hbt2 : (k : Int) < (n : Int) := by omega
      obtain ⟨g, j, rfl, hg, hj, h0, h1, h2, h3, B, m, c', h4, h5⟩ := (rA.later hb).at_ hlt
      have hlen := HM.out k j hj
      have HS := Lib.hid (allB_drop hj)
      have hb1 := hb.alloc hb.size (.cells #[.int .i64 j.work, .int .i64 j.rel, .int .i64 j.due, .int .i64 j.wt, .slice B m c'] 43)
      have hJ : jobB k j = (decide (1 ≤ j.work ∧ j.work ≤ 10000 ∧ 0 ≤ j.rel ∧ j.rel ≤ 640000 ∧ 0 ≤ j.due ∧ j.due ≤ 640000 ∧ 0 ≤ j.wt ∧ j.wt ≤ 1000) && riseB k (-1) j.after) := rfl
      have HJ := Lib.hid hJ
      clear hj hJ
      cases b with
      | false =>
        clear HS HJ hB h5
        go_wp2_with fail
        go_roundw
        case rel => exact ⟨k + 1, false, by omega, by go_num, rfl, rfl, hb1⟩
        case measure => simp [intOf]; omega
      | true =>
        by_cases j0 : 1 ≤ j.work
        case neg =>
          have HN : Hid ((false && allB (k + 1) (l.drop (k + 1))) = false) := rfl
          have n1 : decide (j.work ≥ 1) = false := by simp; omega
          have n2 : j.work < 1 := by omega
          clear HS HJ hB h5 j0
          go_wp2_with fail
          go_roundw
          case rel => exact ⟨k + 1, false, by omega, by go_num, rfl, HN, hb1⟩
          case measure => simp [intOf]; omega
        by_cases j1 : j.work ≤ 10000
        case neg =>
          have HN : Hid ((false && allB (k + 1) (l.drop (k + 1))) = false) := rfl
          have n1 : decide (j.work ≤ 10000) = false := by simp; omega
          have n2 : 10000 < j.work := by omega
          clear HS HJ hB h5 j1
          go_wp2_with fail
          go_roundw
          case rel => exact ⟨k + 1, false, by omega, by go_num, rfl, HN, hb1⟩
          case measure => simp [intOf]; omega
        by_cases j2 : 0 ≤ j.rel
        case neg =>
          have HN : Hid ((false && allB (k + 1) (l.drop (k + 1))) = false) := rfl
          have n1 : decide (j.rel ≥ 0) = false := by simp; omega
          have n2 : j.rel < 0 := by omega
          clear HS HJ hB h5 j2
          go_wp2_with fail
          go_roundw
          case rel => exact ⟨k + 1, false, by omega, by go_num, rfl, HN, hb1⟩
          case measure => simp [intOf]; omega
        by_cases j3 : j.rel ≤ 640000
        case neg =>
          have HN : Hid ((false && allB (k + 1) (l.drop (k + 1))) = false) := rfl
          have n1 : decide (j.rel ≤ 640000) = false := by simp; omega
          have n2 : 640000 < j.rel := by omega
          clear HS HJ hB h5 j3
          go_wp2_with fail
          go_roundw
          case rel => exact ⟨k + 1, false, by omega, by go_num, rfl, HN, hb1⟩
          case measure => simp [intOf]; omega
        by_cases j4 : 0 ≤ j.due
        case neg =>
          have HN : Hid ((false && allB (k + 1) (l.drop (k + 1))) = false) := rfl
          have n1 : decide (j.due ≥ 0) = false := by simp; omega
          have n2 : j.due < 0 := by omega
          clear HS HJ hB h5 j4
          go_wp2_with fail
          go_roundw
          case rel => exact ⟨k + 1, false, by omega, by go_num, rfl, HN, hb1⟩
          case measure => simp [intOf]; omega
        by_cases j5 : j.due ≤ 640000
        case neg =>
          have HN : Hid ((false && allB (k + 1) (l.drop (k + 1))) = false) := rfl
          have n1 : decide (j.due ≤ 640000) = false := by simp; omega
          have n2 : 640000 < j.due := by omega
          clear HS HJ hB h5 j5
          go_wp2_with fail
          go_roundw
          case rel => exact ⟨k + 1, false, by omega, by go_num, rfl, HN, hb1⟩
          case measure => simp [intOf]; omega
        by_cases j6 : 0 ≤ j.wt
        case neg =>
          have HN : Hid ((false && allB (k + 1) (l.drop (k + 1))) = false) := rfl
          have n1 : decide (j.wt ≥ 0) = false := by simp; omega
          have n2 : j.wt < 0 := by omega
          clear HS HJ hB h5 j6
          go_wp2_with fail
          go_roundw
          case rel => exact ⟨k + 1, false, by omega, by go_num, rfl, HN, hb1⟩
          case measure => simp [intOf]; omega
        by_cases j7 : j.wt ≤ 1000
        case neg =>
          have HN : Hid ((false && allB (k + 1) (l.drop (k + 1))) = false) := rfl
          have n1 : decide (j.wt ≤ 1000) = false := by simp; omega
          have n2 : 1000 < j.wt := by omega
          clear HS HJ hB h5 j7
          go_wp2_with fail
          go_roundw
          case rel => exact ⟨k + 1, false, by omega, by go_num, rfl, HN, hb1⟩
          case measure => simp [intOf]; omega
        have HN : Hid ((riseB k (-1) j.after && allB (k + 1) (l.drop (k + 1))) = false) := by
          show _ = _
          have h := hB.out
          rw [HS.out, HJ.out, decide_eq_true ⟨j0, j1, j2, j3, j4, j5, j6, j7⟩] at h
          simpa using h
        have M := Lib.hid (rising_any B m c' k j.after (wr.alloc (.cells #[.int .i64 j.work, .int .i64 j.rel, .int .i64 j.due, .int .i64 j.wt, .slice B m c'] 43)) (h5.later ((Below.refl _ _).alloc (Nat.le_refl _) _)) (by have := h5.1; omega))
        generalize riseB k (-1) j.after = rb at *
        clear h5 HS HJ hB
        go_wp2_with fail
        refine M.out.mono ?_
        rintro e w2 ⟨rfl, rfl⟩
        go_wp2_with fail
        go_roundw
        case rel => exact ⟨k + 1, rb, by omega, by go_num, rfl, HN, hb1⟩
        case measure => simp [intOf]; omega
    · obtain rfl : k = n := by omega
      have hbt : decide ((k : Int) < (k : Int)) = false := by simp
      have hbf : b = false := by
        have h := hB.out
        rw [List.drop_of_length_le (by rw [rA.1]; exact Nat.le_refl _)] at h
        cases b with
        | false => rfl
        | true => exact h
      subst hbf
      go_wp2_with fail
      go_ret
      exact ⟨rfl, hb⟩

theorem Smith_no (A : Option Addr) (n c : Nat) (l : List Jb) (w : World) (rA : JobsH w A n l) (hm : ∀ (k : Nat) (j : Jb), l[k]? = some j → j.after.length ≤ 1000) (hn : n ≤ 1000) (hv : validB l = false) :
    Calls Try.prog 19 #[.slice A n c] w fun e w' => e = .returned (.tuple #[.slice none 0 0, .int .i64 0, .int .i64 1]) ∧ Below w.heap.size w w' := by
  have hw2 : Below w.heap.size w (w.alloc (.cells #[.slice A n c] 22)) := (Below.refl _ _).alloc (Nat.le_refl _) _
  have M1 := Lib.hid (Check_no A n c l _ (rA.later hw2) hm hn hv)
  have k2 := Blk.new w 22 #[.slice A n c]
  have x0 := k2.cell
  have y0 := k2.lt
  clear hm
  go_enter Try.func19, Try.ntmps19
  go_wp2_with fail
  refine M1.out.mono ?_
  rintro e w1 ⟨rfl, hb1⟩
  have hw1 := hw2.trans (hb1.mono (by simp))
  clear x0 y0 k2
  go_wp2_with fail
  (try simp only [Exit.inBlock, Exit.then]); refine bodyPost_ret (results_tmp3 rfl _ _ _) rfl ?_
  exact ⟨rfl, hw1⟩
set_option maxRecDepth 100000 in
theorem Lawler_no (A : Option Addr) (n c : Nat) (l : List Jb) (w : World) (rA : JobsH w A n l) (hm : ∀ (k : Nat) (j : Jb), l[k]? = some j → j.after.length ≤ 1000) (hn : n ≤ 1000) (hv : validB l = false) :
    Calls Try.prog 27 #[.slice A n c] w fun e w' => e = .returned (.tuple #[.slice none 0 0, .int .i64 0, .int .i64 1]) ∧ Below w.heap.size w w' := by
  have M1 := Lib.hid (Check_no A n c l w rA hm hn hv)
  clear hm
  go_enter Try.func27, Try.ntmps27
  go_wp2_with fail
  refine M1.out.mono ?_
  rintro e w1 ⟨rfl, hb1⟩
  go_wp2_with fail
  (try simp only [Exit.inBlock, Exit.then]); refine bodyPost_ret (results_tmp3 rfl _ _ _) rfl ?_
  exact ⟨rfl, hb1⟩
end Go.Proofs.Ytnfcigbiebbjdaa
