/-
  Proved: DialPlays: Play returns what a chronograph shows, and Laps what was held, or ErrArg, for all pushes.
  Conditions: none.
-/
import Derived.Test.YtjlnkghjiaglmaaOpens
import Derived.Test.YtjlnkghjiaglmaaOpenP
import Derived.Test.YtjlnkghjiaglmaaRPlay2
import Derived.Test.YtjlnkghjiaglmaaRPushed
import Derived.Test.YtjlnkghjiaglmaaLives
namespace Go.Proofs.Ytjlnkghjiaglmaa.dialPlays
open Go.ChangeShapes Go.WideShapes Go.ChangeAt Go.RowKit

theorem pushedB_0 (n : Nat) (l : List (Int × Int)) : pushedB n 0 l = (ordL 0 l && decide (n ≤ 1000)) := by
  unfold pushedB
  rw [decide_eq_true (p := (0 : Int) ≤ 0 ∧ (0 : Int) ≤ 1000000000) ⟨by omega, by omega⟩, Bool.true_and, Bool.and_comm]
theorem shown_form (c : Ch) (t : Int) : ∃ (r h : Bool) (M S : Int), shownV c t = .agg #[.bool r, .bool h, .int .i64 M, .int .i64 S] := ⟨_, _, _, _, rfl⟩
set_option maxRecDepth 100000 in
set_option maxHeartbeats 2000000 in
theorem walk_no (A : Option Addr) (n cap : Nat) (at_ : Int) (l : List (Int × Int)) (w : World) (hr : RowA w A n l) (hc : n ≤ cap) (hm : cap ≤ maxLen) (hnil : A = none → cap = 0) (L : List (Int × Int)) (hL : l.take (fewL n) = L) (hm1 : fewL n ≤ 140737488351232) (hno : ¬ (ordL 0 L && decide (fewL n ≤ 1000)) = true) :
    Calls Try.prog 7 #[.slice A n cap, .int .i64 at_] w fun e w' => e = .returned (.bool true) ∧ Below w.heap.size w w' := by
  go_enter Try.func7, Try.ntmps7
  have hw0 : Below w.heap.size w w := Below.refl _ _
  go_wp2_with fail
  refine (copy_any A n cap l w hr hc hm hnil).mono ?_; rintro e w1 ⟨B, cB, rfl, hrB, hb1⟩
  have hw1 := hw0.trans (hb1.mono (by first | omega | (simp; omega) | simp))
  have s1 := hb1.size
  rw [hL] at hrB
  have hP1 : Below w1.heap.size w1 w1 := Below.refl _ _
  have N1 := Lib.hid hno
  go_wp2_with fail
  refine (Play_no B (fewL n) cB L at_ _ (hrB.later hP1) hm1 (fun h => N1.out h.1)).mono ?_; rintro e w2 ⟨rfl, hb2⟩
  have hw2 := hw1.trans (hb2.mono (by first | omega | (simp; omega) | simp))
  have s2 := hb2.size
  have hP2 := hP1.trans (hb2.mono (by first | omega | (simp; omega) | simp))
  go_wp2_with fail
  refine (Laps_no B (fewL n) cB L _ (hrB.later (hP2.alloc (by first | omega | (simp; omega) | simp) _)) hm1 (by simpa using N1.out)).mono ?_; rintro e w3 ⟨rfl, hb3⟩
  have hC3 := (Blk.new w2 38 #[.bool false, .bool false, .int .i64 0, .int .i64 0]).later hb3
  have hw3 := (hw2.alloc (by first | omega | (simp; omega) | simp) _).trans (hb3.mono (by first | omega | (simp; omega) | simp))
  have s3 := hb3.size
  simp at s3
  have lC3 := hC3.lt
  have kC := hC3.cell
  have hP3 := (hP2.alloc (by first | omega | (simp; omega) | simp) _).trans (hb3.mono (by first | omega | (simp; omega) | simp))
  have P1 : pushedB (fewL n) 0 L = false := by rw [pushedB_0]; simpa using N1.out
  have P2 := Lib.hid P1
  clear P1
  go_wp2_with fail
  refine (rPushed_any B (fewL n) cB L 0 _ (hrB.later hP3) hm1).mono ?_; rw [P2.out]; rintro e w4 ⟨rfl, hb4⟩
  have hC4 := hC3.later hb4
  have hw4 := hw3.trans (hb4.mono (by first | omega | (simp; omega) | simp))
  have s4 := hb4.size
  have lC4 := hC4.lt
  clear kC
  have kC := hC4.cell
  have hP4 := hP3.trans (hb4.mono (by first | omega | (simp; omega) | simp))
  go_wp2_with fail
  refine (lives_any _).mono ?_; rintro e w5 ⟨rfl, hb5⟩
  have hC5 := hC4.later hb5
  have hw5 := hw4.trans (hb5.mono (by first | omega | (simp; omega) | simp))
  have s5 := hb5.size
  have lC5 := hC5.lt
  clear kC
  have kC := hC5.cell
  have hP5 := hP4.trans (hb5.mono (by first | omega | (simp; omega) | simp))
  go_wp2_with fail
  go_ret
  exact ⟨rfl, hw5⟩

set_option maxRecDepth 100000 in
set_option maxHeartbeats 2000000 in
theorem walk_in (A : Option Addr) (n cap : Nat) (at_ : Int) (l : List (Int × Int)) (w : World) (hr : RowA w A n l) (hc : n ≤ cap) (hm : cap ≤ maxLen) (hnil : A = none → cap = 0) (L : List (Int × Int)) (hL : l.take (fewL n) = L) (hn : fewL n ≤ 1000) (hv : ordL 0 L = true) (a1 : 0 ≤ at_) (a2 : at_ ≤ 1000000000) (r h : Bool) (M S : Int) (hs : shownV (played at_ Ch.zero L) at_ = .agg #[.bool r, .bool h, .int .i64 M, .int .i64 S]) :
    Calls Try.prog 7 #[.slice A n cap, .int .i64 at_] w fun e w' => e = .returned (.bool true) ∧ Below w.heap.size w w' := by
  go_enter Try.func7, Try.ntmps7
  have hw0 : Below w.heap.size w w := Below.refl _ _
  go_wp2_with fail
  refine (copy_any A n cap l w hr hc hm hnil).mono ?_; rintro e w1 ⟨B, cB, rfl, hrB, hb1⟩
  have hw1 := hw0.trans (hb1.mono (by first | omega | (simp; omega) | simp))
  have s1 := hb1.size
  rw [hL] at hrB
  have hP1 : Below w1.heap.size w1 w1 := Below.refl _ _
  have HV := Lib.hid hv
  clear hv
  go_wp2_with fail
  refine (Play_yes B (fewL n) cB L at_ _ (hrB.later hP1) hn HV.out a1 a2).mono ?_; rw [hs]; rintro e w2 ⟨rfl, hb2⟩
  have hw2 := hw1.trans (hb2.mono (by first | omega | (simp; omega) | simp))
  have s2 := hb2.size
  have hP2 := hP1.trans (hb2.mono (by first | omega | (simp; omega) | simp))
  go_wp2_with fail
  refine (Laps_yes B (fewL n) cB L _ (hrB.later (hP2.alloc (by first | omega | (simp; omega) | simp) _)) hn HV.out).mono ?_; rintro e w3 ⟨E, mE, cE, rfl, hmE, hrE, hb3⟩
  have hC3 := (Blk.new w2 38 #[.bool r, .bool h, .int .i64 M, .int .i64 S]).later hb3
  have hw3 := (hw2.alloc (by first | omega | (simp; omega) | simp) _).trans (hb3.mono (by first | omega | (simp; omega) | simp))
  have s3 := hb3.size
  simp at s3
  have lC3 := hC3.lt
  have kC := hC3.cell
  have hP3 := (hP2.alloc (by first | omega | (simp; omega) | simp) _).trans (hb3.mono (by first | omega | (simp; omega) | simp))
  have hQ3 : Below w3.heap.size w3 w3 := Below.refl _ _
  have P1 : pushedB (fewL n) 0 L = true := by rw [pushed_in hn ⟨by omega, by omega⟩]; exact HV.out
  have P2 := Lib.hid P1
  clear P1
  go_wp2_with fail
  refine (rPushed_any B (fewL n) cB L 0 _ (hrB.later hP3) (by omega)).mono ?_; rw [P2.out]; rintro e w4 ⟨rfl, hb4⟩
  have hC4 := hC3.later hb4
  have hw4 := hw3.trans (hb4.mono (by first | omega | (simp; omega) | simp))
  have s4 := hb4.size
  have lC4 := hC4.lt
  clear kC
  have kC := hC4.cell
  have hP4 := hP3.trans (hb4.mono (by first | omega | (simp; omega) | simp))
  have hQ4 := hQ3.trans (hb4.mono (by first | omega | (simp; omega) | simp))
  have U : upTo 1000000000 L = L := upTo_all HV.out (Int.le_refl _)
  have U2 := Lib.hid U
  clear U
  obtain ⟨r2, h2, M2, S2, hs2⟩ := shown_form (played 1000000000 Ch.zero L) 1000000000
  have HS2 := Lib.hid hs2
  clear hs2
  go_wp2_with fail
  refine (rPlay_any B (fewL n) cB L 1000000000 _ (hrB.later hP4) hn HV.out (by omega) (by omega)).mono ?_; rw [U2.out, HS2.out]; rintro e w5 ⟨G, mG, cG, rfl, hmG, hrG, hb5⟩
  have hC5 := hC4.later hb5
  have hw5 := hw4.trans (hb5.mono (by first | omega | (simp; omega) | simp))
  have s5 := hb5.size
  have lC5 := hC5.lt
  clear kC
  have kC := hC5.cell
  have hP5 := hP4.trans (hb5.mono (by first | omega | (simp; omega) | simp))
  have hQ5 := hQ4.trans (hb5.mono (by first | omega | (simp; omega) | simp))
  have hR5 : Below w5.heap.size w5 w5 := Below.refl _ _
  have hmm : mG = mE := hrG.1.symm.trans hrE.1
  subst hmm
  go_wp2_with fail
  refine (same_true E G mG cE cG (lapsL Ch.zero L) _ (hrE.later (hQ5.alloc (by first | omega | (simp; omega) | simp) _)) (hrG.later (hR5.alloc (by first | omega | (simp; omega) | simp) _)) (by omega)).mono ?_; rintro e w6 ⟨rfl, hb6⟩
  have hC6 := (hC5.alloc _).later hb6
  have hD6 := (Blk.new w5 38 #[.bool r2, .bool h2, .int .i64 M2, .int .i64 S2]).later hb6
  have hw6 := (hw5.alloc (by first | omega | (simp; omega) | simp) _).trans (hb6.mono (by first | omega | (simp; omega) | simp))
  have s6 := hb6.size
  simp at s6
  have lC6 := hC6.lt
  have lD6 := hD6.lt
  clear kC
  have kC := hC6.cell
  have kD := hD6.cell
  have hP6 := (hP5.alloc (by first | omega | (simp; omega) | simp) _).trans (hb6.mono (by first | omega | (simp; omega) | simp))
  have hQ6 := (hQ5.alloc (by first | omega | (simp; omega) | simp) _).trans (hb6.mono (by first | omega | (simp; omega) | simp))
  have hR6 := (hR5.alloc (by first | omega | (simp; omega) | simp) _).trans (hb6.mono (by first | omega | (simp; omega) | simp))
  go_wp2_with fail
  refine (lives_any _).mono ?_; rintro e w7 ⟨rfl, hb7⟩
  have hC7 := hC6.later hb7
  have hD7 := hD6.later hb7
  have hw7 := hw6.trans (hb7.mono (by first | omega | (simp; omega) | simp))
  have s7 := hb7.size
  have lC7 := hC7.lt
  have lD7 := hD7.lt
  clear kC kD
  have kC := hC7.cell
  have kD := hD7.cell
  have hP7 := hP6.trans (hb7.mono (by first | omega | (simp; omega) | simp))
  have hQ7 := hQ6.trans (hb7.mono (by first | omega | (simp; omega) | simp))
  have hR7 := hR6.trans (hb7.mono (by first | omega | (simp; omega) | simp))
  have P3 : pushedB (fewL n) at_ L = true := by rw [pushed_in hn ⟨a1, a2⟩]; exact HV.out
  have P4 := Lib.hid P3
  clear P3
  go_wp2_with fail
  refine (rPushed_any B (fewL n) cB L at_ _ (hrB.later hP7) (by omega)).mono ?_; rw [P4.out]; rintro e w8 ⟨rfl, hb8⟩
  have hC8 := hC7.later hb8
  have hD8 := hD7.later hb8
  have hw8 := hw7.trans (hb8.mono (by first | omega | (simp; omega) | simp))
  have s8 := hb8.size
  have lC8 := hC8.lt
  have lD8 := hD8.lt
  clear kC kD
  have kC := hC8.cell
  have kD := hD8.cell
  have hP8 := hP7.trans (hb8.mono (by first | omega | (simp; omega) | simp))
  have hQ8 := hQ7.trans (hb8.mono (by first | omega | (simp; omega) | simp))
  have hR8 := hR7.trans (hb8.mono (by first | omega | (simp; omega) | simp))
  go_wp2_with fail
  refine (rPlay_any B (fewL n) cB L at_ _ (hrB.later hP8) hn HV.out a1 a2).mono ?_; rw [hs]; rintro e w9 ⟨I, mI, cI, rfl, hmI, hrI, hb9⟩
  have hC9 := hC8.later hb9
  have hD9 := hD8.later hb9
  have hw9 := hw8.trans (hb9.mono (by first | omega | (simp; omega) | simp))
  have s9 := hb9.size
  have lC9 := hC9.lt
  have lD9 := hD9.lt
  clear kC kD
  have kC := hC9.cell
  have kD := hD9.cell
  have hP9 := hP8.trans (hb9.mono (by first | omega | (simp; omega) | simp))
  have hQ9 := hQ8.trans (hb9.mono (by first | omega | (simp; omega) | simp))
  have hR9 := hR8.trans (hb9.mono (by first | omega | (simp; omega) | simp))
  go_wp2_with fail
  go_ret
  exact ⟨rfl, hw9.alloc (by first | omega | (simp; omega) | simp) _⟩

set_option maxRecDepth 100000 in
set_option maxHeartbeats 2000000 in
theorem walk_off (A : Option Addr) (n cap : Nat) (at_ : Int) (l : List (Int × Int)) (w : World) (hr : RowA w A n l) (hc : n ≤ cap) (hm : cap ≤ maxLen) (hnil : A = none → cap = 0) (L : List (Int × Int)) (hL : l.take (fewL n) = L) (hn : fewL n ≤ 1000) (hv : ordL 0 L = true) (ha : ¬ (0 ≤ at_ ∧ at_ ≤ 1000000000)) :
    Calls Try.prog 7 #[.slice A n cap, .int .i64 at_] w fun e w' => e = .returned (.bool true) ∧ Below w.heap.size w w' := by
  go_enter Try.func7, Try.ntmps7
  have hw0 : Below w.heap.size w w := Below.refl _ _
  go_wp2_with fail
  refine (copy_any A n cap l w hr hc hm hnil).mono ?_; rintro e w1 ⟨B, cB, rfl, hrB, hb1⟩
  have hw1 := hw0.trans (hb1.mono (by first | omega | (simp; omega) | simp))
  have s1 := hb1.size
  rw [hL] at hrB
  have hP1 : Below w1.heap.size w1 w1 := Below.refl _ _
  have HV := Lib.hid hv
  clear hv
  go_wp2_with fail
  have HA := Lib.hid ha
  clear ha
  refine (Play_no B (fewL n) cB L at_ _ (hrB.later hP1) (by omega) (fun h => HA.out h.2)).mono ?_; rintro e w2 ⟨rfl, hb2⟩
  have hw2 := hw1.trans (hb2.mono (by first | omega | (simp; omega) | simp))
  have s2 := hb2.size
  have hP2 := hP1.trans (hb2.mono (by first | omega | (simp; omega) | simp))
  go_wp2_with fail
  refine (Laps_yes B (fewL n) cB L _ (hrB.later (hP2.alloc (by first | omega | (simp; omega) | simp) _)) hn HV.out).mono ?_; rintro e w3 ⟨E, mE, cE, rfl, hmE, hrE, hb3⟩
  have hC3 := (Blk.new w2 38 #[.bool false, .bool false, .int .i64 0, .int .i64 0]).later hb3
  have hw3 := (hw2.alloc (by first | omega | (simp; omega) | simp) _).trans (hb3.mono (by first | omega | (simp; omega) | simp))
  have s3 := hb3.size
  simp at s3
  have lC3 := hC3.lt
  have kC := hC3.cell
  have hP3 := (hP2.alloc (by first | omega | (simp; omega) | simp) _).trans (hb3.mono (by first | omega | (simp; omega) | simp))
  have hQ3 : Below w3.heap.size w3 w3 := Below.refl _ _
  have P1 : pushedB (fewL n) 0 L = true := by rw [pushed_in hn ⟨by omega, by omega⟩]; exact HV.out
  have P2 := Lib.hid P1
  clear P1
  go_wp2_with fail
  refine (rPushed_any B (fewL n) cB L 0 _ (hrB.later hP3) (by omega)).mono ?_; rw [P2.out]; rintro e w4 ⟨rfl, hb4⟩
  have hC4 := hC3.later hb4
  have hw4 := hw3.trans (hb4.mono (by first | omega | (simp; omega) | simp))
  have s4 := hb4.size
  have lC4 := hC4.lt
  clear kC
  have kC := hC4.cell
  have hP4 := hP3.trans (hb4.mono (by first | omega | (simp; omega) | simp))
  have hQ4 := hQ3.trans (hb4.mono (by first | omega | (simp; omega) | simp))
  have U : upTo 1000000000 L = L := upTo_all HV.out (Int.le_refl _)
  have U2 := Lib.hid U
  clear U
  obtain ⟨r2, h2, M2, S2, hs2⟩ := shown_form (played 1000000000 Ch.zero L) 1000000000
  have HS2 := Lib.hid hs2
  clear hs2
  go_wp2_with fail
  refine (rPlay_any B (fewL n) cB L 1000000000 _ (hrB.later hP4) hn HV.out (by omega) (by omega)).mono ?_; rw [U2.out, HS2.out]; rintro e w5 ⟨G, mG, cG, rfl, hmG, hrG, hb5⟩
  have hC5 := hC4.later hb5
  have hw5 := hw4.trans (hb5.mono (by first | omega | (simp; omega) | simp))
  have s5 := hb5.size
  have lC5 := hC5.lt
  clear kC
  have kC := hC5.cell
  have hP5 := hP4.trans (hb5.mono (by first | omega | (simp; omega) | simp))
  have hQ5 := hQ4.trans (hb5.mono (by first | omega | (simp; omega) | simp))
  have hR5 : Below w5.heap.size w5 w5 := Below.refl _ _
  have hmm : mG = mE := hrG.1.symm.trans hrE.1
  subst hmm
  go_wp2_with fail
  refine (same_true E G mG cE cG (lapsL Ch.zero L) _ (hrE.later (hQ5.alloc (by first | omega | (simp; omega) | simp) _)) (hrG.later (hR5.alloc (by first | omega | (simp; omega) | simp) _)) (by omega)).mono ?_; rintro e w6 ⟨rfl, hb6⟩
  have hC6 := (hC5.alloc _).later hb6
  have hD6 := (Blk.new w5 38 #[.bool r2, .bool h2, .int .i64 M2, .int .i64 S2]).later hb6
  have hw6 := (hw5.alloc (by first | omega | (simp; omega) | simp) _).trans (hb6.mono (by first | omega | (simp; omega) | simp))
  have s6 := hb6.size
  simp at s6
  have lC6 := hC6.lt
  have lD6 := hD6.lt
  clear kC
  have kC := hC6.cell
  have kD := hD6.cell
  have hP6 := (hP5.alloc (by first | omega | (simp; omega) | simp) _).trans (hb6.mono (by first | omega | (simp; omega) | simp))
  have hQ6 := (hQ5.alloc (by first | omega | (simp; omega) | simp) _).trans (hb6.mono (by first | omega | (simp; omega) | simp))
  have hR6 := (hR5.alloc (by first | omega | (simp; omega) | simp) _).trans (hb6.mono (by first | omega | (simp; omega) | simp))
  go_wp2_with fail
  refine (lives_any _).mono ?_; rintro e w7 ⟨rfl, hb7⟩
  have hC7 := hC6.later hb7
  have hD7 := hD6.later hb7
  have hw7 := hw6.trans (hb7.mono (by first | omega | (simp; omega) | simp))
  have s7 := hb7.size
  have lC7 := hC7.lt
  have lD7 := hD7.lt
  clear kC kD
  have kC := hC7.cell
  have kD := hD7.cell
  have hP7 := hP6.trans (hb7.mono (by first | omega | (simp; omega) | simp))
  have hQ7 := hQ6.trans (hb7.mono (by first | omega | (simp; omega) | simp))
  have hR7 := hR6.trans (hb7.mono (by first | omega | (simp; omega) | simp))
  have P3 : pushedB (fewL n) at_ L = false := pushed_off HA.out
  have P4 := Lib.hid P3
  clear P3
  go_wp2_with fail
  refine (rPushed_any B (fewL n) cB L at_ _ (hrB.later hP7) (by omega)).mono ?_; rw [P4.out]; rintro e w8 ⟨rfl, hb8⟩
  have hC8 := hC7.later hb8
  have hD8 := hD7.later hb8
  have hw8 := hw7.trans (hb8.mono (by first | omega | (simp; omega) | simp))
  have s8 := hb8.size
  have lC8 := hC8.lt
  have lD8 := hD8.lt
  clear kC kD
  have kC := hC8.cell
  have kD := hD8.cell
  have hP8 := hP7.trans (hb8.mono (by first | omega | (simp; omega) | simp))
  have hQ8 := hQ7.trans (hb8.mono (by first | omega | (simp; omega) | simp))
  have hR8 := hR7.trans (hb8.mono (by first | omega | (simp; omega) | simp))
  go_wp2_with fail
  go_ret
  exact ⟨rfl, hw8⟩

theorem walk (A : Option Addr) (n cap : Nat) (at_ : Int) (l : List (Int × Int)) (w : World) (hr : RowA w A n l) (hc : n ≤ cap) (hm : cap ≤ maxLen) (hnil : A = none → cap = 0) :
    Calls Try.prog 7 #[.slice A n cap, .int .i64 at_] w fun e w' => e = .returned (.bool true) ∧ Below w.heap.size w w' := by
  have h1 := fewL_le n
  by_cases hv : (ordL 0 (l.take (fewL n)) && decide (fewL n ≤ 1000)) = true
  · have hv' := hv
    rw [Bool.and_eq_true, decide_eq_true_eq] at hv'
    by_cases ha : 0 ≤ at_ ∧ at_ ≤ 1000000000
    · obtain ⟨r, h, M, S, hs⟩ := shown_form (played at_ Ch.zero (l.take (fewL n))) at_
      exact walk_in A n cap at_ l w hr hc hm hnil _ rfl hv'.2 hv'.1 ha.1 ha.2 r h M S hs
    · exact walk_off A n cap at_ l w hr hc hm hnil _ rfl hv'.2 hv'.1 ha
  · exact walk_no A n cap at_ l w hr hc hm hnil _ rfl (by omega) hv

set_option maxRecDepth 100000 in
theorem lifted (os : Os) (started : os.Started) (H : Type) (enc : TypeId × Value → H) :
    ReturnsInHanded {} Try.checked os 7 .any (Rows.dialPlaysSpec.pre6 enc Try.prog Try.f7 Rows.dialPlaysRow.domain false) (Rows.dialPlaysSpec.post enc Try.prog Try.f7 false true false false) := by
  refine returnsInHanded_of_change (C := Try.checked) Try.own started (by kernel_rfl) Try.func7
    (ChangeSpec.witness6 (enc := enc) (C := Try.checked) false ⟨#[], #[.slice none 0 0, .int .i64 0], []⟩ 8 (by kernel_rfl) (by kernel_rfl) (by kernel_rfl) (by kernel_rfl)) ?_
  intro W base args ds gs before hval0 hW hcnd _
  have hval : ∀ (j : Nat) t v, Try.f7.params[j]? = some t → args[j]? = some v → Value.okWide Try.prog W .any base t v := hval0
  have hW' := hW
  obtain ⟨p, q, hA0, hV, rfl, hfz, hnd⟩ := hW
  have hA : DataW.TrodAll enc Try.prog W 0 (fun _ => true) true Try.f7.params.toList args.toList ds p := hA0
  rw [Try.params7] at hA hval
  obtain ⟨v0, vs0, d0, ds0, p0, q0, hargs, rfl, rfl, h0, r0⟩ := trodAll_cons hA
  obtain ⟨v1, vs1, d1, ds1, p1, q1, rfl, rfl, rfl, h1, r1⟩ := trodAll_cons r0
  obtain ⟨rfl, rfl, rfl⟩ := trodAll_nil r1
  obtain rfl : args = #[v0, v1] := by cases args; simp_all
  obtain ⟨rfl, rfl⟩ := trodVars_none hV
  obtain ⟨A0, n0, c0, l0, rfl, x0, y0, z0, u0⟩ := open_P (hval 0 33 v0 rfl rfl) h0
  obtain ⟨a1, rfl, rfl, rfl, w1⟩ := open_int Try.underlying3 (hval 1 3 v1 rfl rfl) h1
  refine (walk A0 n0 c0 a1 l0 W x0 y0 z0 u0).mono fun e W' ⟨he, hb⟩ => ?_
  exact ⟨_, he, law_post rfl (by kernel_rfl) (by kernel_rfl) hW' rfl rfl rfl hb⟩

set_option maxRecDepth 100000 in
theorem facts : joinedFacts Try.prog 7 Try.f7 Rows.dialPlaysSpec Rows.dialPlaysRow = true := by
  unfold joinedFacts
  repeat' (with_reducible refine and_t ?_ ?_)
  all_goals first
    | with_reducible exact Try.enters
    | (rw [Try.finals]; as_aux_lemma => kernel_rfl)
    | (rw [Try.made]; as_aux_lemma => kernel_rfl)
    | (as_aux_lemma => kernel_rfl)

theorem proved : Rows.DialPlaysSaid :=
  OpenClaim.holds_of_wide 7 Try.f7 rfl rfl rfl rfl rfl rfl rfl ⟨rfl, rfl, rfl, rfl, rfl⟩ rfl rfl rfl rfl rfl (by as_aux_lemma => kernel_rfl) Try.func7 facts
    (of_decide_eq_true (by as_aux_lemma => kernel_rfl)) (by unfold Func.isWrapper; rw [if_neg (of_decide_eq_false (by kernel_rfl))]; exact ⟨rfl, rfl⟩)
    (fun os started H enc _ => lifted os started H enc)
#print axioms proved
end Go.Proofs.Ytjlnkghjiaglmaa.dialPlays
