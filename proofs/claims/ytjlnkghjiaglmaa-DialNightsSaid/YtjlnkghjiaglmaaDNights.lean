/-
  Proved: DialNights: Midnight returns the face after some midnights, and Correct the face after a push, or ErrArg, for all faces.
  Conditions: none.
-/
import Derived.Test.YtjlnkghjiaglmaaOpens
import Derived.Test.YtjlnkghjiaglmaaLives
import Derived.Test.YtjlnkghjiaglmaaCorr3
import Derived.Test.YtjlnkghjiaglmaaFaceNo2
import Derived.Test.YtjlnkghjiaglmaaRFace
namespace Go.Proofs.Ytjlnkghjiaglmaa.dialNights
open Go.ChangeShapes Go.WideShapes Go.ChangeAt Go.RowKit

set_option maxHeartbeats 2000000 in
theorem walk_np (f : Fc) (gv : Fc) (hv : Fc) (nights N p : Int) (w : World) (M0 : Hid (∀ w, Hid (Calls Try.prog 51 #[.int .i64 nights, .int .i64 3000] w fun e w' => e = .returned (.int .i64 N) ∧ w = w'))) (M1 : Hid (∀ w, Hid (Calls Try.prog 50 #[f.val, .int .i64 N] w fun e w' => e = .returned (.tuple #[gv.val, .int .i64 0]) ∧ Below w.heap.size w w'))) (M2 : Hid (∀ w, Hid (Calls Try.prog 52 #[f.val, .int .i64 p] w fun e w' => e = .returned (.tuple #[hv.val, .int .i64 0]) ∧ Below w.heap.size w w'))) (M4 : Hid (∀ w, Hid (Calls Try.prog 41 #[f.val] w fun e w' => e = .returned (.bool true) ∧ Below w.heap.size w w'))) (M3 : Hid (∀ w, Hid (Calls Try.prog 53 #[f.val, .int .i64 N] w fun e w' => e = .returned (gv.val) ∧ Below w.heap.size w w'))) (n1 : 0 ≤ N) (n2 : N ≤ 100000) (M5 : Hid (∀ w, Hid (Calls Try.prog 54 #[f.val, .int .i64 p] w fun e w' => e = .returned (hv.val) ∧ Below w.heap.size w w'))) (p1 : 1 ≤ p) (p2 : p ≤ 4) :
    Calls Try.prog 14 #[f.val, .int .i64 nights, .int .i64 p] w fun e w' => e = .returned (.bool true) ∧ Below w.heap.size w w' := by
  go_enter Try.func14, Try.ntmps14
  go_wp2_with fail
  refine (M0.out _).out.mono ?_; rintro e w' ⟨rfl, rfl⟩
  go_wp2_with fail
  refine (M1.out _).out.mono ?_; rintro e w1 ⟨rfl, hb1⟩
  have hF1 := (Blk.new w 52 f.cells).later hb1
  have l1 := hF1.lt
  have k1 := hF1.cell
  have hw1 : Below w.heap.size w w1 := ((Below.refl _ _).alloc (Nat.le_refl _) _).trans (hb1.mono (by simp))
  go_wp2_with fail
  refine (M2.out _).out.mono ?_; rintro e w2 ⟨rfl, hb2⟩
  have hF2 := (hF1.alloc _).later hb2
  have hG2 := (Blk.new w1 52 gv.cells).later hb2
  have l2 := hG2.lt
  have l2f := hF2.lt
  have hw2 := (hw1.alloc (by omega) _).trans (hb2.mono (by simp; omega))
  have k2 := hF2.cell
  clear k1
  go_wp2_with fail
  refine (M4.out _).out.mono ?_; rintro e w3 ⟨rfl, hb3⟩
  have hF3 := (hF2.alloc _).later hb3
  have hG3 := (hG2.alloc _).later hb3
  have hH3 := (Blk.new w2 52 hv.cells).later hb3
  have lH := hH3.lt
  have lG := hG3.lt
  have lF := hF3.lt
  have hw3 := (hw2.alloc (by omega) _).trans (hb3.mono (by simp; omega))
  have kF := hF3.cell
  have kG := hG3.cell
  have kH := hH3.cell
  have hx := later_cell (w := w3)
  clear k2
  go_wp2_with fail
  refine wp_region_later (by kernel_rfl) (by kernel_rfl) ?_
  repeat (go_big_quiet_step ((go_at_call 53; exact later_call (M3.out _).out)))
  refine wpQuiet_nil ?_
  rintro w4 ⟨⟨_, hb4⟩, rfl⟩
  have hF4 := hF3.later hb4
  have hH4 := hH3.later hb4
  have lH4 := hH4.lt
  have lF4 := hF4.lt
  have hw4 := hw3.trans (hb4.mono (by omega))
  have kF4 := hF4.cell
  have kH4 := hH4.cell
  clear hx kF kG kH
  have hx := later_cell (w := w4)
  go_wp2_with fail
  refine wp_region_later (by kernel_rfl) (by kernel_rfl) ?_
  repeat (go_big_quiet_step (first
    | (go_at_call 54; exact later_call (M5.out _).out)
    | (go_at_call 23; exact later_call (lives_any _))))
  refine wpQuiet_nil ?_
  rintro w5 ⟨⟨_, hb5⟩, rfl⟩
  clear hx
  go_wp2_with fail
  go_ret
  exact ⟨rfl, hw4.trans (hb5.mono (by omega))⟩

set_option maxHeartbeats 2000000 in
theorem walk_nx (f : Fc) (gv : Fc) (nights N p : Int) (w : World) (M0 : Hid (∀ w, Hid (Calls Try.prog 51 #[.int .i64 nights, .int .i64 3000] w fun e w' => e = .returned (.int .i64 N) ∧ w = w'))) (M1 : Hid (∀ w, Hid (Calls Try.prog 50 #[f.val, .int .i64 N] w fun e w' => e = .returned (.tuple #[gv.val, .int .i64 0]) ∧ Below w.heap.size w w'))) (M2 : Hid (∀ w, Hid (Calls Try.prog 52 #[f.val, .int .i64 p] w fun e w' => e = .returned (.tuple #[.agg Z5, .int .i64 1]) ∧ Below w.heap.size w w'))) (M4 : Hid (∀ w, Hid (Calls Try.prog 41 #[f.val] w fun e w' => e = .returned (.bool true) ∧ Below w.heap.size w w'))) (M3 : Hid (∀ w, Hid (Calls Try.prog 53 #[f.val, .int .i64 N] w fun e w' => e = .returned (gv.val) ∧ Below w.heap.size w w'))) (n1 : 0 ≤ N) (n2 : N ≤ 100000) (p1 : p < 1 ∨ (1 ≤ p ∧ 4 < p)) :
    Calls Try.prog 14 #[f.val, .int .i64 nights, .int .i64 p] w fun e w' => e = .returned (.bool true) ∧ Below w.heap.size w w' := by
  rcases p1 with p1 | ⟨p1, p2⟩
  all_goals
    go_enter Try.func14, Try.ntmps14
    go_wp2_with fail
    refine (M0.out _).out.mono ?_; rintro e w' ⟨rfl, rfl⟩
    go_wp2_with fail
    refine (M1.out _).out.mono ?_; rintro e w1 ⟨rfl, hb1⟩
    have hF1 := (Blk.new w 52 f.cells).later hb1
    have l1 := hF1.lt
    have k1 := hF1.cell
    have hw1 : Below w.heap.size w w1 := ((Below.refl _ _).alloc (Nat.le_refl _) _).trans (hb1.mono (by simp))
    go_wp2_with fail
    refine (M2.out _).out.mono ?_; rintro e w2 ⟨rfl, hb2⟩
    have hF2 := (hF1.alloc _).later hb2
    have hG2 := (Blk.new w1 52 gv.cells).later hb2
    have l2 := hG2.lt
    have l2f := hF2.lt
    have hw2 := (hw1.alloc (by omega) _).trans (hb2.mono (by simp; omega))
    have k2 := hF2.cell
    clear k1
    go_wp2_with fail
    refine (M4.out _).out.mono ?_; rintro e w3 ⟨rfl, hb3⟩
    have hF3 := (hF2.alloc _).later hb3
    have hG3 := (hG2.alloc _).later hb3
    have hH3 := (Blk.new w2 52 Z5).later hb3
    have lH := hH3.lt
    have lG := hG3.lt
    have lF := hF3.lt
    have hw3 := (hw2.alloc (by omega) _).trans (hb3.mono (by simp; omega))
    have kF := hF3.cell
    have kG := hG3.cell
    have kH := hH3.cell
    have hx := later_cell (w := w3)
    clear k2
    go_wp2_with fail
    refine wp_region_later (by kernel_rfl) (by kernel_rfl) ?_
    repeat (go_big_quiet_step ((go_at_call 53; exact later_call (M3.out _).out)))
    refine wpQuiet_nil ?_
    rintro w4 ⟨⟨_, hb4⟩, rfl⟩
    have hF4 := hF3.later hb4
    have hH4 := hH3.later hb4
    have lH4 := hH4.lt
    have lF4 := hF4.lt
    have hw4 := hw3.trans (hb4.mono (by omega))
    have kF4 := hF4.cell
    have kH4 := hH4.cell
    clear hx kF kG kH
    have hx := later_cell (w := w4)
    go_wp2_with fail
    refine (lives_any _).mono ?_; rintro e w5 ⟨rfl, hb5⟩
    go_wp2_with fail
    go_ret
    exact ⟨rfl, hw4.trans (hb5.mono (by omega))⟩

set_option maxHeartbeats 2000000 in
theorem walk_xp (f : Fc) (hv : Fc) (nights N p : Int) (w : World) (M0 : Hid (∀ w, Hid (Calls Try.prog 51 #[.int .i64 nights, .int .i64 3000] w fun e w' => e = .returned (.int .i64 N) ∧ w = w'))) (M1 : Hid (∀ w, Hid (Calls Try.prog 50 #[f.val, .int .i64 N] w fun e w' => e = .returned (.tuple #[.agg Z5, .int .i64 1]) ∧ Below w.heap.size w w'))) (M2 : Hid (∀ w, Hid (Calls Try.prog 52 #[f.val, .int .i64 p] w fun e w' => e = .returned (.tuple #[hv.val, .int .i64 0]) ∧ Below w.heap.size w w'))) (M4 : Hid (∀ w, Hid (Calls Try.prog 41 #[f.val] w fun e w' => e = .returned (.bool true) ∧ Below w.heap.size w w'))) (n1 : N < 0 ∨ (0 ≤ N ∧ 100000 < N)) (M5 : Hid (∀ w, Hid (Calls Try.prog 54 #[f.val, .int .i64 p] w fun e w' => e = .returned (hv.val) ∧ Below w.heap.size w w'))) (p1 : 1 ≤ p) (p2 : p ≤ 4) :
    Calls Try.prog 14 #[f.val, .int .i64 nights, .int .i64 p] w fun e w' => e = .returned (.bool true) ∧ Below w.heap.size w w' := by
  rcases n1 with n1 | ⟨n1, n2⟩
  all_goals
    go_enter Try.func14, Try.ntmps14
    go_wp2_with fail
    refine (M0.out _).out.mono ?_; rintro e w' ⟨rfl, rfl⟩
    go_wp2_with fail
    refine (M1.out _).out.mono ?_; rintro e w1 ⟨rfl, hb1⟩
    have hF1 := (Blk.new w 52 f.cells).later hb1
    have l1 := hF1.lt
    have k1 := hF1.cell
    have hw1 : Below w.heap.size w w1 := ((Below.refl _ _).alloc (Nat.le_refl _) _).trans (hb1.mono (by simp))
    go_wp2_with fail
    refine (M2.out _).out.mono ?_; rintro e w2 ⟨rfl, hb2⟩
    have hF2 := (hF1.alloc _).later hb2
    have hG2 := (Blk.new w1 52 Z5).later hb2
    have l2 := hG2.lt
    have l2f := hF2.lt
    have hw2 := (hw1.alloc (by omega) _).trans (hb2.mono (by simp; omega))
    have k2 := hF2.cell
    clear k1
    go_wp2_with fail
    refine (M4.out _).out.mono ?_; rintro e w3 ⟨rfl, hb3⟩
    have hF3 := (hF2.alloc _).later hb3
    have hG3 := (hG2.alloc _).later hb3
    have hH3 := (Blk.new w2 52 hv.cells).later hb3
    have lH := hH3.lt
    have lG := hG3.lt
    have lF := hF3.lt
    have hw3 := (hw2.alloc (by omega) _).trans (hb3.mono (by simp; omega))
    have kF := hF3.cell
    have kG := hG3.cell
    have kH := hH3.cell
    have hx := later_cell (w := w3)
    clear k2
    go_wp2_with fail
    refine wp_region_later (by kernel_rfl) (by kernel_rfl) ?_
    repeat (go_big_quiet_step (first
      | (go_at_call 54; exact later_call (M5.out _).out)
      | (go_at_call 23; exact later_call (lives_any _))))
    refine wpQuiet_nil ?_
    rintro w5 ⟨⟨_, hb5⟩, rfl⟩
    clear hx
    go_wp2_with fail
    go_ret
    exact ⟨rfl, hw3.trans (hb5.mono (by omega))⟩

set_option maxHeartbeats 2000000 in
theorem walk_xx (f : Fc) (nights N p : Int) (w : World) (M0 : Hid (∀ w, Hid (Calls Try.prog 51 #[.int .i64 nights, .int .i64 3000] w fun e w' => e = .returned (.int .i64 N) ∧ w = w'))) (M1 : Hid (∀ w, Hid (Calls Try.prog 50 #[f.val, .int .i64 N] w fun e w' => e = .returned (.tuple #[.agg Z5, .int .i64 1]) ∧ Below w.heap.size w w'))) (M2 : Hid (∀ w, Hid (Calls Try.prog 52 #[f.val, .int .i64 p] w fun e w' => e = .returned (.tuple #[.agg Z5, .int .i64 1]) ∧ Below w.heap.size w w'))) (M4 : Hid (∀ w, Hid (Calls Try.prog 41 #[f.val] w fun e w' => e = .returned (.bool true) ∧ Below w.heap.size w w'))) (n1 : N < 0 ∨ (0 ≤ N ∧ 100000 < N)) (p1 : p < 1 ∨ (1 ≤ p ∧ 4 < p)) :
    Calls Try.prog 14 #[f.val, .int .i64 nights, .int .i64 p] w fun e w' => e = .returned (.bool true) ∧ Below w.heap.size w w' := by
  rcases n1 with n1 | ⟨n1, n2⟩ <;> rcases p1 with p1 | ⟨p1, p2⟩
  all_goals
    go_enter Try.func14, Try.ntmps14
    go_wp2_with fail
    refine (M0.out _).out.mono ?_; rintro e w' ⟨rfl, rfl⟩
    go_wp2_with fail
    refine (M1.out _).out.mono ?_; rintro e w1 ⟨rfl, hb1⟩
    have hF1 := (Blk.new w 52 f.cells).later hb1
    have l1 := hF1.lt
    have k1 := hF1.cell
    have hw1 : Below w.heap.size w w1 := ((Below.refl _ _).alloc (Nat.le_refl _) _).trans (hb1.mono (by simp))
    go_wp2_with fail
    refine (M2.out _).out.mono ?_; rintro e w2 ⟨rfl, hb2⟩
    have hF2 := (hF1.alloc _).later hb2
    have hG2 := (Blk.new w1 52 Z5).later hb2
    have l2 := hG2.lt
    have l2f := hF2.lt
    have hw2 := (hw1.alloc (by omega) _).trans (hb2.mono (by simp; omega))
    have k2 := hF2.cell
    clear k1
    go_wp2_with fail
    refine (M4.out _).out.mono ?_; rintro e w3 ⟨rfl, hb3⟩
    have hF3 := (hF2.alloc _).later hb3
    have hG3 := (hG2.alloc _).later hb3
    have hH3 := (Blk.new w2 52 Z5).later hb3
    have lH := hH3.lt
    have lG := hG3.lt
    have lF := hF3.lt
    have hw3 := (hw2.alloc (by omega) _).trans (hb3.mono (by simp; omega))
    have kF := hF3.cell
    have kG := hG3.cell
    have kH := hH3.cell
    have hx := later_cell (w := w3)
    clear k2
    go_wp2_with fail
    refine (lives_any _).mono ?_; rintro e w5 ⟨rfl, hb5⟩
    go_wp2_with fail
    go_ret
    exact ⟨rfl, hw3.trans (hb5.mono (by omega))⟩

set_option maxHeartbeats 2000000 in
theorem walk_bad (f : Fc) (nights N p : Int) (w : World) (M0 : Hid (∀ w, Hid (Calls Try.prog 51 #[.int .i64 nights, .int .i64 3000] w fun e w' => e = .returned (.int .i64 N) ∧ w = w'))) (M1 : Hid (∀ w, Hid (Calls Try.prog 50 #[f.val, .int .i64 N] w fun e w' => e = .returned (.tuple #[.agg Z5, .int .i64 1]) ∧ Below w.heap.size w w'))) (M2 : Hid (∀ w, Hid (Calls Try.prog 52 #[f.val, .int .i64 p] w fun e w' => e = .returned (.tuple #[.agg Z5, .int .i64 1]) ∧ Below w.heap.size w w'))) (M4 : Hid (∀ w, Hid (Calls Try.prog 41 #[f.val] w fun e w' => e = .returned (.bool false) ∧ Below w.heap.size w w'))) :
    Calls Try.prog 14 #[f.val, .int .i64 nights, .int .i64 p] w fun e w' => e = .returned (.bool true) ∧ Below w.heap.size w w' := by
  go_enter Try.func14, Try.ntmps14
  go_wp2_with fail
  refine (M0.out _).out.mono ?_; rintro e w' ⟨rfl, rfl⟩
  go_wp2_with fail
  refine (M1.out _).out.mono ?_; rintro e w1 ⟨rfl, hb1⟩
  have hF1 := (Blk.new w 52 f.cells).later hb1
  have l1 := hF1.lt
  have k1 := hF1.cell
  have hw1 : Below w.heap.size w w1 := ((Below.refl _ _).alloc (Nat.le_refl _) _).trans (hb1.mono (by simp))
  go_wp2_with fail
  refine (M2.out _).out.mono ?_; rintro e w2 ⟨rfl, hb2⟩
  have hF2 := (hF1.alloc _).later hb2
  have hG2 := (Blk.new w1 52 Z5).later hb2
  have l2 := hG2.lt
  have l2f := hF2.lt
  have hw2 := (hw1.alloc (by omega) _).trans (hb2.mono (by simp; omega))
  have k2 := hF2.cell
  clear k1
  go_wp2_with fail
  refine (M4.out _).out.mono ?_; rintro e w3 ⟨rfl, hb3⟩
  have hG3 := (hG2.alloc _).later hb3
  have hH3 := (Blk.new w2 52 Z5).later hb3
  have lH := hH3.lt
  have lG := hG3.lt
  have hw3 := (hw2.alloc (by omega) _).trans (hb3.mono (by simp; omega))
  have kG := hG3.cell
  have kH := hH3.cell
  clear k2
  go_wp2_with fail
  refine (lives_any _).mono ?_; rintro e w5 ⟨rfl, hb5⟩
  go_wp2_with fail
  go_ret
  exact ⟨rfl, hw3.trans (hb5.mono (by omega))⟩

theorem walk (D M L W O nights p : Int) (w : World) :
    Calls Try.prog 14 #[.agg #[.int .i64 D, .int .i64 M, .int .i64 L, .int .i64 W, .int .i64 O], .int .i64 nights, .int .i64 p] w fun e w' => e = .returned (.bool true) ∧ Below w.heap.size w w' := by
  obtain ⟨f, hf⟩ : ∃ f : Fc, f = ⟨D, M, L, W, O⟩ := ⟨_, rfl⟩
  have e : (Value.agg #[.int .i64 D, .int .i64 M, .int .i64 L, .int .i64 W, .int .i64 O]) = f.val := by rw [hf]
  rw [e]
  clear e hf
  obtain ⟨N, hN⟩ : ∃ N, N = fewN nights 3000 := ⟨_, rfl⟩
  have M0 : Hid (∀ w, Hid (Calls Try.prog 51 #[.int .i64 nights, .int .i64 3000] w fun e w' => e = .returned (.int .i64 N) ∧ w = w')) := Lib.hid fun w => Lib.hid (by rw [hN]; exact fewer_any nights 3000 w (by omega) (by omega))
  by_cases hok : f.ok
  · have M4 := Lib.hid fun w => Lib.hid (rFace_yes f w hok)
    by_cases hn : 0 ≤ N ∧ N ≤ 100000
    · have M1 := Lib.hid fun w => Lib.hid (Midnight_yes f N w hok hn.1 hn.2)
      have M3 := Lib.hid fun w => Lib.hid (rMidnight_any f N w hok hn.1 hn.2)
      by_cases hp : 1 ≤ p ∧ p ≤ 4
      · exact walk_np f _ _ nights N p w M0 M1 (Lib.hid fun w => Lib.hid (Correct_yes f p w hok hp.1 hp.2)) M4 M3 hn.1 hn.2 (Lib.hid fun w => Lib.hid (rCorrect_yes f p w hok hp.1 hp.2)) hp.1 hp.2
      · exact walk_nx f _ nights N p w M0 M1 (Lib.hid fun w => Lib.hid (Correct_no f p w fun h => hp h.2)) M4 M3 hn.1 hn.2 (by omega)
    · have M1 := Lib.hid fun w => Lib.hid (Midnight_no f N w fun h => hn h.2)
      by_cases hp : 1 ≤ p ∧ p ≤ 4
      · exact walk_xp f _ nights N p w M0 M1 (Lib.hid fun w => Lib.hid (Correct_yes f p w hok hp.1 hp.2)) M4 (by omega) (Lib.hid fun w => Lib.hid (rCorrect_yes f p w hok hp.1 hp.2)) hp.1 hp.2
      · exact walk_xx f nights N p w M0 M1 (Lib.hid fun w => Lib.hid (Correct_no f p w fun h => hp h.2)) M4 (by omega) (by omega)
  · exact walk_bad f nights N p w M0 (Lib.hid fun w => Lib.hid (Midnight_no f N w fun h => hok h.1)) (Lib.hid fun w => Lib.hid (Correct_no f p w fun h => hok h.1)) (Lib.hid fun w => Lib.hid (rFace_no f w hok))

set_option maxRecDepth 100000 in
theorem lifted (os : Os) (started : os.Started) (H : Type) (enc : TypeId × Value → H) :
    ReturnsInHanded {} Try.checked os 14 .any (Rows.dialNightsSpec.pre6 enc Try.prog Try.f14 Rows.dialNightsRow.domain false) (Rows.dialNightsSpec.post enc Try.prog Try.f14 false true false false) := by
  refine returnsInHanded_of_change (C := Try.checked) Try.own started (by kernel_rfl) Try.func14
    (ChangeSpec.witness6 (enc := enc) (C := Try.checked) false ⟨#[], #[.agg #[.int .i64 0, .int .i64 0, .int .i64 0, .int .i64 0, .int .i64 0], .int .i64 0, .int .i64 0], []⟩ 8 (by kernel_rfl) (by kernel_rfl) (by kernel_rfl) (by kernel_rfl)) ?_
  intro W base args ds gs before hval0 hW hcnd _
  have hval : ∀ (j : Nat) t v, Try.f14.params[j]? = some t → args[j]? = some v → Value.okWide Try.prog W .any base t v := hval0
  have hW' := hW
  obtain ⟨p, q, hA0, hV, rfl, hfz, hnd⟩ := hW
  have hA : DataW.TrodAll enc Try.prog W 0 (fun _ => true) true Try.f14.params.toList args.toList ds p := hA0
  rw [Try.params14] at hA hval
  obtain ⟨v0, vs0, d0, ds0, p0, q0, hargs, rfl, rfl, h0, r0⟩ := trodAll_cons hA
  obtain ⟨v1, vs1, d1, ds1, p1, q1, rfl, rfl, rfl, h1, r1⟩ := trodAll_cons r0
  obtain ⟨v2, vs2, d2, ds2, p2, q2, rfl, rfl, rfl, h2, r2⟩ := trodAll_cons r1
  obtain ⟨rfl, rfl, rfl⟩ := trodAll_nil r2
  obtain rfl : args = #[v0, v1, v2] := by cases args; simp_all
  obtain ⟨rfl, rfl⟩ := trodVars_none hV
  obtain ⟨a00, a01, a02, a03, a04, rfl⟩ := open_F (hval 0 52 v0 rfl rfl) h0
  obtain ⟨a1, rfl, rfl, rfl, w1⟩ := open_int Try.underlying3 (hval 1 3 v1 rfl rfl) h1
  obtain ⟨a2, rfl, rfl, rfl, w2⟩ := open_int Try.underlying3 (hval 2 3 v2 rfl rfl) h2
  refine (walk a00 a01 a02 a03 a04 a1 a2 W).mono fun e W' ⟨he, hb⟩ => ?_
  exact ⟨_, he, law_post rfl (by kernel_rfl) (by kernel_rfl) hW' rfl rfl rfl hb⟩

set_option maxRecDepth 100000 in
theorem facts : joinedFacts Try.prog 14 Try.f14 Rows.dialNightsSpec Rows.dialNightsRow = true := by
  unfold joinedFacts
  repeat' (with_reducible refine and_t ?_ ?_)
  all_goals first
    | with_reducible exact Try.enters
    | (rw [Try.finals]; as_aux_lemma => kernel_rfl)
    | (rw [Try.made]; as_aux_lemma => kernel_rfl)
    | (as_aux_lemma => kernel_rfl)

theorem proved : Rows.DialNightsSaid :=
  OpenClaim.holds_of_wide 14 Try.f14 rfl rfl rfl rfl rfl rfl rfl ⟨rfl, rfl, rfl, rfl, rfl⟩ rfl rfl rfl rfl rfl (by as_aux_lemma => kernel_rfl) Try.func14 facts
    (of_decide_eq_true (by as_aux_lemma => kernel_rfl)) (by unfold Func.isWrapper; rw [if_neg (of_decide_eq_false (by kernel_rfl))]; exact ⟨rfl, rfl⟩)
    (fun os started H enc _ => lifted os started H enc)
#print axioms proved
end Go.Proofs.Ytjlnkghjiaglmaa.dialNights
