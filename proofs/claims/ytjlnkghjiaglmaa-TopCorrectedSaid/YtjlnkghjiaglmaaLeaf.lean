/-
  Contracts of the small functions of package dial and of the reference: length, leaps, Length, Leap, in, fold, fewer, weekday.
  Conditions: the years that are asked are not below 0.
-/
import Derived.Test.YtjlnkghjiaglmaaProg
import Derived.Test.YtjlnkghjiaglmaaKit
import Derived.Test.YtjlnkghjiaglmaaCal
namespace Go.Proofs.Ytjlnkghjiaglmaa
open Go.RowKit

theorem ret_int {k : IntKind} {a b : Int} (h : a = b) : Ending.returned (.int k a) = .returned (.int k b) := by rw [h]
theorem ret_bool {a b : Bool} (h : a = b) : Ending.returned (.bool a) = .returned (.bool b) := by rw [h]

set_option maxHeartbeats 400000 in
theorem length_any (m : Int) (l : Bool) (w : World) :
    Calls Try.prog 60 #[.int .i64 m, .bool l] w fun e w' => e = .returned (.int .i64 (Cal.dl m l)) ∧ w = w' := by
  go_enter Try.func60, Try.ntmps60
  go_wp2
  all_goals (go_ret; refine ⟨ret_int ?_, rfl⟩; simp_all [Cal.dl])

set_option maxHeartbeats 400000 in
theorem leaps_any (y : Int) (w : World) (h : 0 ≤ y) :
    Calls Try.prog 61 #[.int .i64 y] w fun e w' => e = .returned (.bool (Cal.lp y)) ∧ w = w' := by
  go_enter Try.func61, Try.ntmps61
  go_wp2
  all_goals (go_ret; refine ⟨ret_bool ?_, rfl⟩; rw [Bool.eq_iff_iff]; simp [Cal.lp]; omega)

set_option maxHeartbeats 400000 in
theorem Leap_any (y : Int) (w : World) (h : 0 ≤ y) :
    Calls Try.prog 25 #[.int .i64 y] w fun e w' => e = .returned (.bool (Cal.lp y)) ∧ w = w' := by
  go_enter Try.func25, Try.ntmps25
  go_wp2
  all_goals (go_ret; refine ⟨ret_bool ?_, rfl⟩; rw [Bool.eq_iff_iff]; simp [Cal.lp]; omega)

set_option maxHeartbeats 400000 in
theorem Length_yes (y m : Int) (w : World) (h1 : 1 ≤ y) (h2 : y ≤ 9999) (h3 : 1 ≤ m) (h4 : m ≤ 12) :
    Calls Try.prog 22 #[.int .i64 y, .int .i64 m] w fun e w' => e = .returned (.tuple #[.int .i64 (Cal.dl m (Cal.lp y)), .int .i64 0]) ∧ w = w' := by
  go_enter Try.func22, Try.ntmps22
  go_wp2_with (first
    | (go_at_call 61; refine (leaps_any _ _ (by omega)).mono ?_; rintro e w' ⟨rfl, rfl⟩)
    | (go_at_call 60; refine (length_any _ _ _).mono ?_; rintro e w' ⟨rfl, rfl⟩))
  go_ret2
  exact ⟨rfl, rfl⟩

theorem Length_no (y m : Int) (w : World) (h : ¬ (1 ≤ y ∧ y ≤ 9999 ∧ 1 ≤ m ∧ m ≤ 12)) :
    Calls Try.prog 22 #[.int .i64 y, .int .i64 m] w fun e w' => e = .returned (.tuple #[.int .i64 0, .int .i64 1]) ∧ w = w' := by
  by_cases h1 : 1 ≤ y
  · by_cases h2 : y ≤ 9999
    · by_cases h3 : 1 ≤ m
      · have h4 : 12 < m := by omega
        clear h
        go_enter Try.func22, Try.ntmps22
        go_wp2_with fail
        go_ret2
        exact ⟨rfl, rfl⟩
      · clear h
        go_enter Try.func22, Try.ntmps22
        go_wp2_with fail
        go_ret2
        exact ⟨rfl, rfl⟩
    · clear h
      go_enter Try.func22, Try.ntmps22
      go_wp2_with fail
      go_ret2
      exact ⟨rfl, rfl⟩
  · clear h
    go_enter Try.func22, Try.ntmps22
    go_wp2_with fail
    go_ret2
    exact ⟨rfl, rfl⟩

theorem in_yes (v a b : Int) (w : World) (h1 : a ≤ v) (h2 : v ≤ b) :
    Calls Try.prog 68 #[.int .i64 v, .int .i64 a, .int .i64 b] w fun e w' => e = .returned (.bool true) ∧ w = w' := by
  go_enter Try.func68, Try.ntmps68
  go_wp2
  all_goals (go_ret; refine ⟨ret_bool ?_, rfl⟩; simp <;> omega)
theorem in_no (v a b : Int) (w : World) (h : ¬ (a ≤ v ∧ v ≤ b)) :
    Calls Try.prog 68 #[.int .i64 v, .int .i64 a, .int .i64 b] w fun e w' => e = .returned (.bool false) ∧ w = w' := by
  by_cases h1 : a ≤ v
  · have h2 : b < v := by omega
    clear h
    go_enter Try.func68, Try.ntmps68
    go_wp2
    all_goals (go_ret; refine ⟨ret_bool ?_, rfl⟩; simp <;> omega)
  · clear h
    go_enter Try.func68, Try.ntmps68
    go_wp2
    all_goals (go_ret; refine ⟨ret_bool ?_, rfl⟩; simp <;> omega)

theorem weekday_any (n : Int) (w : World) (h1 : 0 ≤ n) (h2 : n ≤ 4000000) :
    Calls Try.prog 64 #[.int .i64 n] w fun e w' => e = .returned (.int .i64 ((n + 1) % 7)) ∧ w = w' := by
  go_enter Try.func64, Try.ntmps64
  go_wp2
  go_ret
  exact ⟨rfl, rfl⟩

theorem fold_eq (v n : Int) (h1 : 1 ≤ n) (h2 : n ≤ 4000000) : (wrap64 (v.tmod n + n)).tmod n = v % n := by
  have a := Int.tmod_lt_of_pos v (show 0 < n by omega)
  have b := Int.lt_tmod_of_pos v (show 0 < n by omega)
  rw [IntWalk.wrap64_in _ ⟨by omega, by omega⟩, Int.tmod_eq_emod_of_nonneg (by omega), Int.add_emod_right]
  have c := Int.tmod_def v n
  rw [c, Int.sub_mul_emod_self_left]

theorem fold_any (v n : Int) (w : World) (h1 : 1 ≤ n) (h2 : n ≤ 4000000) :
    Calls Try.prog 48 #[.int .i64 v, .int .i64 n] w fun e w' => e = .returned (.int .i64 (v % n)) ∧ w = w' := by
  go_enter Try.func48, Try.ntmps48
  go_wp2
  go_ret
  exact ⟨ret_int (fold_eq v n h1 h2), rfl⟩

theorem Length12 (m : Int) (h1 : 1 ≤ m) (h2 : m ≤ 12) : m = 1 ∨ m = 2 ∨ m = 3 ∨ m = 4 ∨ m = 5 ∨ m = 6 ∨ m = 7 ∨ m = 8 ∨ m = 9 ∨ m = 10 ∨ m = 11 ∨ m = 12 := by omega
theorem cell12 (m : Int) (h1 : 1 ≤ m) (h2 : m ≤ 12) (h3 : m ≠ 2) (l : Bool) :
    ([.int .i64 31, .int .i64 28, .int .i64 31, .int .i64 30, .int .i64 31, .int .i64 30, .int .i64 31, .int .i64 31, .int .i64 30, .int .i64 31, .int .i64 30, .int .i64 31] : List Value)[m.toNat - 1]? = some (.int .i64 (Cal.dl m l)) := by
  rcases Length12 m h1 h2 with rfl | rfl | rfl | rfl | rfl | rfl | rfl | rfl | rfl | rfl | rfl | rfl
  all_goals first | rfl | exact absurd rfl h3
set_option maxHeartbeats 1000000 in
theorem rLength_any (m : Int) (l : Bool) (w : World) (h1 : 1 ≤ m) (h2 : m ≤ 12) :
    Calls Try.prog 24 #[.int .i64 m, .bool l] w fun e w' => e = .returned (.int .i64 (Cal.dl m l)) ∧ Below w.heap.size w w' := by
  by_cases h3 : m = 2
  · subst h3
    cases l
    all_goals
      go_enter Try.func24, Try.ntmps24
      go_wp2
      go_ret
      exact ⟨rfl, (Below.refl _ _).alloc (Nat.le_refl _) _⟩
  · have hc := cell12 m h1 h2 h3 l
    have hb : (m == 2) = false := by simpa using h3
    clear h3
    go_enter Try.func24, Try.ntmps24
    go_wp2
    go_ret
    exact ⟨rfl, (Below.refl _ _).alloc (Nat.le_refl _) _⟩
end Go.Proofs.Ytjlnkghjiaglmaa
