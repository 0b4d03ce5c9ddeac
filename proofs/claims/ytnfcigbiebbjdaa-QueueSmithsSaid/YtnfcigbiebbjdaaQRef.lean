/-
  Orders as the document reads them: each number once; orders made of others by exchanges.
  Conditions: the slices are not longer than 1000.
-/
import Derived.Test.YtnfcigbiebbjdaaQLives
namespace Go.Proofs.Ytnfcigbiebbjdaa
open Go.RowKit

theorem fold_eq (v n : Int) (h1 : 1 ≤ n) (h2 : n ≤ 4000000) : (wrap64 (v.tmod n + n)).tmod n = v % n := by
  have a := Int.tmod_lt_of_pos v (show 0 < n by omega)
  have b := Int.lt_tmod_of_pos v (show 0 < n by omega)
  rw [IntWalk.wrap64_in _ ⟨by omega, by omega⟩, Int.tmod_eq_emod_of_nonneg (by omega), Int.add_emod_right]
  have c := Int.tmod_def v n
  rw [c, Int.sub_mul_emod_self_left]
theorem ret_int {k : IntKind} {a b : Int} (h : a = b) : Ending.returned (.int k a) = .returned (.int k b) := by rw [h]
theorem fold_any (v n : Int) (w : World) (h1 : 1 ≤ n) (h2 : n ≤ 4000000) :
    Calls Try.prog 24 #[.int .i64 v, .int .i64 n] w fun e w' => e = .returned (.int .i64 (v % n)) ∧ w = w' := by
  go_enter Try.func24, Try.ntmps24
  go_wp2
  go_ret
  exact ⟨ret_int (fold_eq v n h1 h2), rfl⟩
theorem in_yes (v a b : Int) (w : World) (h1 : a ≤ v) (h2 : v ≤ b) : Calls Try.prog 52 #[.int .i64 v, .int .i64 a, .int .i64 b] w fun e w' => e = .returned (.bool true) ∧ w = w' := by
  have d1 : decide (a ≤ v) = true := by simpa using h1
  have d2 : decide (v ≤ b) = true := by simpa using h2
  go_enter Try.func52, Try.ntmps52
  go_wp2
  go_ret
  exact ⟨rfl, rfl⟩

set_option maxHeartbeats 1000000 in
theorem Order_yes (A : Option Addr) (n c : Nat) (o : List Int) (w : World) (rA : RowH w A n o) (ho : isOrd n o) (hn : n ≤ 1000) :
    Calls Try.prog 20 #[.slice A n c, .int .i64 n] w fun e w' => e = .returned (.bool true) ∧ Below w.heap.size w w' := by
  have HO := Lib.hid ho
  have d0 : ((n : Int) != (n : Int)) = false := by simp
  clear ho
  go_enter Try.func20, Try.ntmps20
  go_wp2_with fail
  go_loopw [5] (fun i wr => ∃ k : Nat, k ≤ n ∧ i = .int .i64 k ∧ Below w.heap.size w wr) (fun i _ => n - (intOf i).toNat)
  case atStart => exact ⟨0, Nat.zero_le _, rfl, Below.refl _ _⟩
  case round =>
    obtain ⟨k, hk, rfl, hb⟩ := hrel
    by_cases hlt : k < n
    · obtain ⟨g, rfl, hg, hc⟩ := (rA.later hb).at_ hlt
      have hok : o[k]? = some (o.getD k 0) := getD_get (by rw [rA.1]; exact hlt)
      have hx := HO.out.2.2 _ (List.mem_of_getElem? hok)
      have hbt : decide ((k : Int) < (n : Int)) = true := by simp; omega
      have hbt2 : (k : Int) < (n : Int) := by omega
      have HK := Lib.hid hok
      clear hok
      generalize o.getD k 0 = x at *
      have M := fun w => Lib.hid (in_yes x 0 ((n : Int) - 1) w hx.1 (by omega))
      have HM := Lib.hid M
      clear M
      go_wp2_with fail
      refine (HM.out _).out.mono ?_
      rintro e w' ⟨rfl, rfl⟩
      go_wp2_with fail
      go_loopw [6] (fun i wr => ∃ j : Nat, j ≤ k ∧ i = .int .i64 j ∧ Below w.heap.size w wr) (fun i _ => k - (intOf i).toNat)
      case atStart => exact ⟨0, Nat.zero_le _, rfl, hb⟩
      case round =>
        clear hc hg hb
        obtain ⟨j, hj, rfl, hb⟩ := hrel
        by_cases hjk : j < k
        · have hbj : decide ((j : Int) < (k : Int)) = true := by simp; omega
          have hbj2 : (j : Int) < (k : Int) := by omega
          obtain ⟨g', e1, hg, hc⟩ := (rA.later hb).at_ hlt
          cases e1
          obtain ⟨g', e1, _, hd⟩ := (rA.later hb).at_ (show j < n by omega)
          cases e1
          have hoj : o[j]? = some (o.getD j 0) := getD_get (by rw [rA.1]; omega)
          have hxx : o.getD k 0 = x := by rw [List.getD_eq_getElem?_getD, HK.out]; rfl
          rw [hxx] at hc
          have hne : o.getD j 0 ≠ x := fun e => by
            rw [e] at hoj
            have h1 := HK.out
            have hd := HO.out.2.1
            have a1 := (List.getElem?_eq_some_iff.1 hoj)
            have a2 := (List.getElem?_eq_some_iff.1 h1)
            obtain ⟨p1, q1⟩ := a1
            obtain ⟨p2, q2⟩ := a2
            have := (List.pairwise_iff_getElem.1 hd) j k p1 p2 hjk
            exact this (q1.trans q2.symm)
          clear hoj hxx
          generalize o.getD j 0 = y at *
          have hbe : (y == x) = false := by simpa using hne
          have hxl := later_cell (w := wr)
          go_wp2_with fail
          refine wp_region_later (by kernel_rfl) (by kernel_rfl) ?_
          repeat (go_big_quiet_step (fail))
          refine wpQuiet_nil ?_
          rintro w2 ⟨⟨_, hb2⟩, rfl⟩
          clear hxl hc hd
          go_wp2_with fail
          go_roundw
          case rel => exact ⟨j + 1, by omega, by go_num, hb.trans (hb2.mono hb.size)⟩
          case measure => simp [intOf]; omega
        · obtain rfl : j = k := by omega
          have hbj : decide ((j : Int) < (j : Int)) = false := by simp
          go_wp2_with fail
          go_roundw
          case rel => exact ⟨j + 1, by omega, by go_num, hb⟩
          case measure => simp [intOf]; omega
    · obtain rfl : k = n := by omega
      have hbt : decide ((k : Int) < (k : Int)) = false := by simp
      go_wp2_with fail
      go_ret
      exact ⟨rfl, hb⟩
end Go.Proofs.Ytnfcigbiebbjdaa
