/-
  Proved: DialSets: Set returns the face of a date, and Shows whether a face shows it, or ErrArg.
  Conditions: none.
-/
import Derived.Test.YtjlnkghjiaglmaaOpens
import Derived.Test.YtjlnkghjiaglmaaLives
import Derived.Test.YtjlnkghjiaglmaaNights
import Derived.Test.YtjlnkghjiaglmaaSets2
import Derived.Test.YtjlnkghjiaglmaaFaceNo2
import Derived.Test.YtjlnkghjiaglmaaRFace
namespace Go.Proofs.Ytjlnkghjiaglmaa.dialSets
open Go.ChangeShapes Go.WideShapes Go.ChangeAt Go.RowKit

set_option maxHeartbeats 2000000 in
theorem walk_dmf (y m d o : Int) (f : Fc) (gv : Fc) (s : Bool) (w : World) (M1 : Hid (∀ w, Hid (Calls Try.prog 37 #[D3 y m d, .int .i64 o] w fun e w' => e = .returned (.tuple #[gv.val, .int .i64 0]) ∧ Below w.heap.size w w'))) (M2 : Hid (∀ w, Hid (Calls Try.prog 38 #[f.val, D3 y m d] w fun e w' => e = .returned (.tuple #[.bool s, .int .i64 0]) ∧ Below w.heap.size w w'))) (M3 : Hid (∀ w, Hid (Calls Try.prog 39 #[D3 y m d] w fun e w' => e = .returned (.bool true) ∧ Below w.heap.size w w'))) (M4 : Hid (∀ w, Hid (Calls Try.prog 40 #[D3 y m d, .int .i64 o] w fun e w' => e = .returned (gv.val) ∧ Below w.heap.size w w'))) (M5 : Hid (∀ w, Hid (Calls Try.prog 41 #[f.val] w fun e w' => e = .returned (.bool true) ∧ Below w.heap.size w w'))) (M6 : Hid (∀ w, Hid (Calls Try.prog 42 #[f.val, D3 y m d] w fun e w' => e = .returned (.bool s) ∧ Below w.heap.size w w'))) (o1 : 0 ≤ o) (o2 : o ≤ 58) :
    Calls Try.prog 9 #[D3 y m d, .int .i64 o, f.val] w fun e w' => e = .returned (.bool true) ∧ Below w.heap.size w w' := by
  go_enter Try.func9, Try.ntmps9
  have hw0 : Below w.heap.size w w := Below.refl _ _
  go_wp2_with fail
  refine ((M1.out _).out).mono ?_; rintro e w1 ⟨rfl, hb1⟩
  have hD1 := ((Blk.new w 30 #[.int .i64 y, .int .i64 m, .int .i64 d]).alloc _).later hb1
  have hF1 := (Blk.new1 w (.cells #[.int .i64 y, .int .i64 m, .int .i64 d] 30) 52 f.cells).later hb1
  have hw1 := ((hw0.alloc (by first | omega | (simp; omega) | simp) _).alloc (by first | omega | (simp; omega) | simp) _).trans (hb1.mono (by first | omega | (simp; omega) | simp))
  have s1 := hb1.size
  simp at s1
  have lD1 := hD1.lt
  have lF1 := hF1.lt
  have kD := hD1.cell
  have kF := hF1.cell
  go_wp2_with fail
  refine ((M2.out _).out).mono ?_; rintro e w2 ⟨rfl, hb2⟩
  have hD2 := (hD1.alloc _).later hb2
  have hF2 := (hF1.alloc _).later hb2
  have hG2 := (Blk.new w1 52 gv.cells).later hb2
  have hw2 := (hw1.alloc (by first | omega | (simp; omega) | simp) _).trans (hb2.mono (by first | omega | (simp; omega) | simp))
  have s2 := hb2.size
  simp at s2
  have lD2 := hD2.lt
  have lF2 := hF2.lt
  have lG2 := hG2.lt
  clear kD kF
  have kD := hD2.cell
  have kF := hF2.cell
  have kG := hG2.cell
  go_wp2_with fail
  refine ((M3.out _).out).mono ?_; rintro e w3 ⟨rfl, hb3⟩
  have hD3 := hD2.later hb3
  have hF3 := hF2.later hb3
  have hG3 := hG2.later hb3
  have hw3 := hw2.trans (hb3.mono (by first | omega | (simp; omega) | simp))
  have s3 := hb3.size
  have lD3 := hD3.lt
  have lF3 := hF3.lt
  have lG3 := hG3.lt
  clear kD kF kG
  have kD := hD3.cell
  have kF := hF3.cell
  have kG := hG3.cell
  have hx := later_cell (w := w3)
  go_wp2_with fail
  refine wp_region_later (by kernel_rfl) (by kernel_rfl) ?_
  repeat (go_big_quiet_step ((first | (go_at_call 40; exact later_call (M4.out _).out))))
  refine wpQuiet_nil ?_
  rintro w4 ⟨⟨_, hb4⟩, rfl⟩
  have hD4 := hD3.later hb4
  have hF4 := hF3.later hb4
  have hG4 := hG3.later hb4
  have hw4 := hw3.trans (hb4.mono (by first | omega | (simp; omega) | simp))
  have s4 := hb4.size
  have lD4 := hD4.lt
  have lF4 := hF4.lt
  have lG4 := hG4.lt
  clear kD kF kG
  clear hx
  have kD := hD4.cell
  have kF := hF4.cell
  have kG := hG4.cell
  go_wp2_with fail
  refine ((M3.out _).out).mono ?_; rintro e w5 ⟨rfl, hb5⟩
  have hD5 := hD4.later hb5
  have hF5 := hF4.later hb5
  have hG5 := hG4.later hb5
  have hw5 := hw4.trans (hb5.mono (by first | omega | (simp; omega) | simp))
  have s5 := hb5.size
  have lD5 := hD5.lt
  have lF5 := hF5.lt
  have lG5 := hG5.lt
  clear kD kF kG
  have kD := hD5.cell
  have kF := hF5.cell
  have kG := hG5.cell
  go_wp2_with fail
  refine ((M5.out _).out).mono ?_; rintro e w6 ⟨rfl, hb6⟩
  have hD6 := hD5.later hb6
  have hF6 := hF5.later hb6
  have hG6 := hG5.later hb6
  have hw6 := hw5.trans (hb6.mono (by first | omega | (simp; omega) | simp))
  have s6 := hb6.size
  have lD6 := hD6.lt
  have lF6 := hF6.lt
  have lG6 := hG6.lt
  clear kD kF kG
  have kD := hD6.cell
  have kF := hF6.cell
  have kG := hG6.cell
  go_wp2_with fail
  refine ((M6.out _).out).mono ?_; rintro e w7 ⟨rfl, hb7⟩
  have hD7 := hD6.later hb7
  have hF7 := hF6.later hb7
  have hG7 := hG6.later hb7
  have hw7 := hw6.trans (hb7.mono (by first | omega | (simp; omega) | simp))
  have s7 := hb7.size
  have lD7 := hD7.lt
  have lF7 := hF7.lt
  have lG7 := hG7.lt
  clear kD kF kG
  have kD := hD7.cell
  have kF := hF7.cell
  have kG := hG7.cell
  go_wp2_with fail
  refine (lives_any _).mono ?_; rintro e w8 ⟨rfl, hb8⟩
  have hD8 := hD7.later hb8
  have hF8 := hF7.later hb8
  have hG8 := hG7.later hb8
  have hw8 := hw7.trans (hb8.mono (by first | omega | (simp; omega) | simp))
  have s8 := hb8.size
  have lD8 := hD8.lt
  have lF8 := hF8.lt
  have lG8 := hG8.lt
  clear kD kF kG
  have kD := hD8.cell
  have kF := hF8.cell
  have kG := hG8.cell
  go_wp2_with fail
  go_ret
  exact ⟨rfl, hw8⟩

set_option maxHeartbeats 2000000 in
theorem walk_dmx (y m d o : Int) (f : Fc) (gv : Fc) (w : World) (M1 : Hid (∀ w, Hid (Calls Try.prog 37 #[D3 y m d, .int .i64 o] w fun e w' => e = .returned (.tuple #[gv.val, .int .i64 0]) ∧ Below w.heap.size w w'))) (M2 : Hid (∀ w, Hid (Calls Try.prog 38 #[f.val, D3 y m d] w fun e w' => e = .returned (.tuple #[.bool false, .int .i64 1]) ∧ Below w.heap.size w w'))) (M3 : Hid (∀ w, Hid (Calls Try.prog 39 #[D3 y m d] w fun e w' => e = .returned (.bool true) ∧ Below w.heap.size w w'))) (M4 : Hid (∀ w, Hid (Calls Try.prog 40 #[D3 y m d, .int .i64 o] w fun e w' => e = .returned (gv.val) ∧ Below w.heap.size w w'))) (M5 : Hid (∀ w, Hid (Calls Try.prog 41 #[f.val] w fun e w' => e = .returned (.bool false) ∧ Below w.heap.size w w'))) (o1 : 0 ≤ o) (o2 : o ≤ 58) :
    Calls Try.prog 9 #[D3 y m d, .int .i64 o, f.val] w fun e w' => e = .returned (.bool true) ∧ Below w.heap.size w w' := by
  go_enter Try.func9, Try.ntmps9
  have hw0 : Below w.heap.size w w := Below.refl _ _
  go_wp2_with fail
  refine ((M1.out _).out).mono ?_; rintro e w1 ⟨rfl, hb1⟩
  have hD1 := ((Blk.new w 30 #[.int .i64 y, .int .i64 m, .int .i64 d]).alloc _).later hb1
  have hF1 := (Blk.new1 w (.cells #[.int .i64 y, .int .i64 m, .int .i64 d] 30) 52 f.cells).later hb1
  have hw1 := ((hw0.alloc (by first | omega | (simp; omega) | simp) _).alloc (by first | omega | (simp; omega) | simp) _).trans (hb1.mono (by first | omega | (simp; omega) | simp))
  have s1 := hb1.size
  simp at s1
  have lD1 := hD1.lt
  have lF1 := hF1.lt
  have kD := hD1.cell
  have kF := hF1.cell
  go_wp2_with fail
  refine ((M2.out _).out).mono ?_; rintro e w2 ⟨rfl, hb2⟩
  have hD2 := (hD1.alloc _).later hb2
  have hF2 := (hF1.alloc _).later hb2
  have hG2 := (Blk.new w1 52 gv.cells).later hb2
  have hw2 := (hw1.alloc (by first | omega | (simp; omega) | simp) _).trans (hb2.mono (by first | omega | (simp; omega) | simp))
  have s2 := hb2.size
  simp at s2
  have lD2 := hD2.lt
  have lF2 := hF2.lt
  have lG2 := hG2.lt
  clear kD kF
  have kD := hD2.cell
  have kF := hF2.cell
  have kG := hG2.cell
  go_wp2_with fail
  refine ((M3.out _).out).mono ?_; rintro e w3 ⟨rfl, hb3⟩
  have hD3 := hD2.later hb3
  have hF3 := hF2.later hb3
  have hG3 := hG2.later hb3
  have hw3 := hw2.trans (hb3.mono (by first | omega | (simp; omega) | simp))
  have s3 := hb3.size
  have lD3 := hD3.lt
  have lF3 := hF3.lt
  have lG3 := hG3.lt
  clear kD kF kG
  have kD := hD3.cell
  have kF := hF3.cell
  have kG := hG3.cell
  have hx := later_cell (w := w3)
  go_wp2_with fail
  refine wp_region_later (by kernel_rfl) (by kernel_rfl) ?_
  repeat (go_big_quiet_step ((first | (go_at_call 40; exact later_call (M4.out _).out))))
  refine wpQuiet_nil ?_
  rintro w4 ⟨⟨_, hb4⟩, rfl⟩
  have hD4 := hD3.later hb4
  have hF4 := hF3.later hb4
  have hG4 := hG3.later hb4
  have hw4 := hw3.trans (hb4.mono (by first | omega | (simp; omega) | simp))
  have s4 := hb4.size
  have lD4 := hD4.lt
  have lF4 := hF4.lt
  have lG4 := hG4.lt
  clear kD kF kG
  clear hx
  have kD := hD4.cell
  have kF := hF4.cell
  have kG := hG4.cell
  go_wp2_with fail
  refine ((M3.out _).out).mono ?_; rintro e w5 ⟨rfl, hb5⟩
  have hD5 := hD4.later hb5
  have hF5 := hF4.later hb5
  have hG5 := hG4.later hb5
  have hw5 := hw4.trans (hb5.mono (by first | omega | (simp; omega) | simp))
  have s5 := hb5.size
  have lD5 := hD5.lt
  have lF5 := hF5.lt
  have lG5 := hG5.lt
  clear kD kF kG
  have kD := hD5.cell
  have kF := hF5.cell
  have kG := hG5.cell
  go_wp2_with fail
  refine ((M5.out _).out).mono ?_; rintro e w6 ⟨rfl, hb6⟩
  have hD6 := hD5.later hb6
  have hF6 := hF5.later hb6
  have hG6 := hG5.later hb6
  have hw6 := hw5.trans (hb6.mono (by first | omega | (simp; omega) | simp))
  have s6 := hb6.size
  have lD6 := hD6.lt
  have lF6 := hF6.lt
  have lG6 := hG6.lt
  clear kD kF kG
  have kD := hD6.cell
  have kF := hF6.cell
  have kG := hG6.cell
  go_wp2_with fail
  refine (lives_any _).mono ?_; rintro e w7 ⟨rfl, hb7⟩
  have hD7 := hD6.later hb7
  have hF7 := hF6.later hb7
  have hG7 := hG6.later hb7
  have hw7 := hw6.trans (hb7.mono (by first | omega | (simp; omega) | simp))
  have s7 := hb7.size
  have lD7 := hD7.lt
  have lF7 := hF7.lt
  have lG7 := hG7.lt
  clear kD kF kG
  have kD := hD7.cell
  have kF := hF7.cell
  have kG := hG7.cell
  go_wp2_with fail
  go_ret
  exact ⟨rfl, hw7⟩

set_option maxHeartbeats 2000000 in
theorem walk_dxf (y m d o : Int) (f : Fc) (s : Bool) (w : World) (M1 : Hid (∀ w, Hid (Calls Try.prog 37 #[D3 y m d, .int .i64 o] w fun e w' => e = .returned (.tuple #[.agg Z5, .int .i64 1]) ∧ Below w.heap.size w w'))) (M2 : Hid (∀ w, Hid (Calls Try.prog 38 #[f.val, D3 y m d] w fun e w' => e = .returned (.tuple #[.bool s, .int .i64 0]) ∧ Below w.heap.size w w'))) (M3 : Hid (∀ w, Hid (Calls Try.prog 39 #[D3 y m d] w fun e w' => e = .returned (.bool true) ∧ Below w.heap.size w w'))) (M5 : Hid (∀ w, Hid (Calls Try.prog 41 #[f.val] w fun e w' => e = .returned (.bool true) ∧ Below w.heap.size w w'))) (M6 : Hid (∀ w, Hid (Calls Try.prog 42 #[f.val, D3 y m d] w fun e w' => e = .returned (.bool s) ∧ Below w.heap.size w w'))) (o1 : o < 0 ∨ (0 ≤ o ∧ 58 < o)) :
    Calls Try.prog 9 #[D3 y m d, .int .i64 o, f.val] w fun e w' => e = .returned (.bool true) ∧ Below w.heap.size w w' := by
  rcases o1 with o1 | ⟨o1, o2⟩
  all_goals
    go_enter Try.func9, Try.ntmps9
    have hw0 : Below w.heap.size w w := Below.refl _ _
    go_wp2_with fail
    refine ((M1.out _).out).mono ?_; rintro e w1 ⟨rfl, hb1⟩
    have hD1 := ((Blk.new w 30 #[.int .i64 y, .int .i64 m, .int .i64 d]).alloc _).later hb1
    have hF1 := (Blk.new1 w (.cells #[.int .i64 y, .int .i64 m, .int .i64 d] 30) 52 f.cells).later hb1
    have hw1 := ((hw0.alloc (by first | omega | (simp; omega) | simp) _).alloc (by first | omega | (simp; omega) | simp) _).trans (hb1.mono (by first | omega | (simp; omega) | simp))
    have s1 := hb1.size
    simp at s1
    have lD1 := hD1.lt
    have lF1 := hF1.lt
    have kD := hD1.cell
    have kF := hF1.cell
    go_wp2_with fail
    refine ((M2.out _).out).mono ?_; rintro e w2 ⟨rfl, hb2⟩
    have hD2 := (hD1.alloc _).later hb2
    have hF2 := (hF1.alloc _).later hb2
    have hG2 := (Blk.new w1 52 Z5).later hb2
    have hw2 := (hw1.alloc (by first | omega | (simp; omega) | simp) _).trans (hb2.mono (by first | omega | (simp; omega) | simp))
    have s2 := hb2.size
    simp at s2
    have lD2 := hD2.lt
    have lF2 := hF2.lt
    have lG2 := hG2.lt
    clear kD kF
    have kD := hD2.cell
    have kF := hF2.cell
    have kG := hG2.cell
    go_wp2_with fail
    refine ((M3.out _).out).mono ?_; rintro e w3 ⟨rfl, hb3⟩
    have hD3 := hD2.later hb3
    have hF3 := hF2.later hb3
    have hG3 := hG2.later hb3
    have hw3 := hw2.trans (hb3.mono (by first | omega | (simp; omega) | simp))
    have s3 := hb3.size
    have lD3 := hD3.lt
    have lF3 := hF3.lt
    have lG3 := hG3.lt
    clear kD kF kG
    have kD := hD3.cell
    have kF := hF3.cell
    have kG := hG3.cell
    go_wp2_with fail
    refine ((M3.out _).out).mono ?_; rintro e w4 ⟨rfl, hb4⟩
    have hD4 := hD3.later hb4
    have hF4 := hF3.later hb4
    have hG4 := hG3.later hb4
    have hw4 := hw3.trans (hb4.mono (by first | omega | (simp; omega) | simp))
    have s4 := hb4.size
    have lD4 := hD4.lt
    have lF4 := hF4.lt
    have lG4 := hG4.lt
    clear kD kF kG
    have kD := hD4.cell
    have kF := hF4.cell
    have kG := hG4.cell
    go_wp2_with fail
    refine ((M5.out _).out).mono ?_; rintro e w5 ⟨rfl, hb5⟩
    have hD5 := hD4.later hb5
    have hF5 := hF4.later hb5
    have hG5 := hG4.later hb5
    have hw5 := hw4.trans (hb5.mono (by first | omega | (simp; omega) | simp))
    have s5 := hb5.size
    have lD5 := hD5.lt
    have lF5 := hF5.lt
    have lG5 := hG5.lt
    clear kD kF kG
    have kD := hD5.cell
    have kF := hF5.cell
    have kG := hG5.cell
    go_wp2_with fail
    refine ((M6.out _).out).mono ?_; rintro e w6 ⟨rfl, hb6⟩
    have hD6 := hD5.later hb6
    have hF6 := hF5.later hb6
    have hG6 := hG5.later hb6
    have hw6 := hw5.trans (hb6.mono (by first | omega | (simp; omega) | simp))
    have s6 := hb6.size
    have lD6 := hD6.lt
    have lF6 := hF6.lt
    have lG6 := hG6.lt
    clear kD kF kG
    have kD := hD6.cell
    have kF := hF6.cell
    have kG := hG6.cell
    go_wp2_with fail
    refine (lives_any _).mono ?_; rintro e w7 ⟨rfl, hb7⟩
    have hD7 := hD6.later hb7
    have hF7 := hF6.later hb7
    have hG7 := hG6.later hb7
    have hw7 := hw6.trans (hb7.mono (by first | omega | (simp; omega) | simp))
    have s7 := hb7.size
    have lD7 := hD7.lt
    have lF7 := hF7.lt
    have lG7 := hG7.lt
    clear kD kF kG
    have kD := hD7.cell
    have kF := hF7.cell
    have kG := hG7.cell
    go_wp2_with fail
    go_ret
    exact ⟨rfl, hw7⟩

set_option maxHeartbeats 2000000 in
theorem walk_dxx (y m d o : Int) (f : Fc) (w : World) (M1 : Hid (∀ w, Hid (Calls Try.prog 37 #[D3 y m d, .int .i64 o] w fun e w' => e = .returned (.tuple #[.agg Z5, .int .i64 1]) ∧ Below w.heap.size w w'))) (M2 : Hid (∀ w, Hid (Calls Try.prog 38 #[f.val, D3 y m d] w fun e w' => e = .returned (.tuple #[.bool false, .int .i64 1]) ∧ Below w.heap.size w w'))) (M3 : Hid (∀ w, Hid (Calls Try.prog 39 #[D3 y m d] w fun e w' => e = .returned (.bool true) ∧ Below w.heap.size w w'))) (M5 : Hid (∀ w, Hid (Calls Try.prog 41 #[f.val] w fun e w' => e = .returned (.bool false) ∧ Below w.heap.size w w'))) (o1 : o < 0 ∨ (0 ≤ o ∧ 58 < o)) :
    Calls Try.prog 9 #[D3 y m d, .int .i64 o, f.val] w fun e w' => e = .returned (.bool true) ∧ Below w.heap.size w w' := by
  rcases o1 with o1 | ⟨o1, o2⟩
  all_goals
    go_enter Try.func9, Try.ntmps9
    have hw0 : Below w.heap.size w w := Below.refl _ _
    go_wp2_with fail
    refine ((M1.out _).out).mono ?_; rintro e w1 ⟨rfl, hb1⟩
    have hD1 := ((Blk.new w 30 #[.int .i64 y, .int .i64 m, .int .i64 d]).alloc _).later hb1
    have hF1 := (Blk.new1 w (.cells #[.int .i64 y, .int .i64 m, .int .i64 d] 30) 52 f.cells).later hb1
    have hw1 := ((hw0.alloc (by first | omega | (simp; omega) | simp) _).alloc (by first | omega | (simp; omega) | simp) _).trans (hb1.mono (by first | omega | (simp; omega) | simp))
    have s1 := hb1.size
    simp at s1
    have lD1 := hD1.lt
    have lF1 := hF1.lt
    have kD := hD1.cell
    have kF := hF1.cell
    go_wp2_with fail
    refine ((M2.out _).out).mono ?_; rintro e w2 ⟨rfl, hb2⟩
    have hD2 := (hD1.alloc _).later hb2
    have hF2 := (hF1.alloc _).later hb2
    have hG2 := (Blk.new w1 52 Z5).later hb2
    have hw2 := (hw1.alloc (by first | omega | (simp; omega) | simp) _).trans (hb2.mono (by first | omega | (simp; omega) | simp))
    have s2 := hb2.size
    simp at s2
    have lD2 := hD2.lt
    have lF2 := hF2.lt
    have lG2 := hG2.lt
    clear kD kF
    have kD := hD2.cell
    have kF := hF2.cell
    have kG := hG2.cell
    go_wp2_with fail
    refine ((M3.out _).out).mono ?_; rintro e w3 ⟨rfl, hb3⟩
    have hD3 := hD2.later hb3
    have hF3 := hF2.later hb3
    have hG3 := hG2.later hb3
    have hw3 := hw2.trans (hb3.mono (by first | omega | (simp; omega) | simp))
    have s3 := hb3.size
    have lD3 := hD3.lt
    have lF3 := hF3.lt
    have lG3 := hG3.lt
    clear kD kF kG
    have kD := hD3.cell
    have kF := hF3.cell
    have kG := hG3.cell
    go_wp2_with fail
    refine ((M3.out _).out).mono ?_; rintro e w4 ⟨rfl, hb4⟩
    have hD4 := hD3.later hb4
    have hF4 := hF3.later hb4
    have hG4 := hG3.later hb4
    have hw4 := hw3.trans (hb4.mono (by first | omega | (simp; omega) | simp))
    have s4 := hb4.size
    have lD4 := hD4.lt
    have lF4 := hF4.lt
    have lG4 := hG4.lt
    clear kD kF kG
    have kD := hD4.cell
    have kF := hF4.cell
    have kG := hG4.cell
    go_wp2_with fail
    refine ((M5.out _).out).mono ?_; rintro e w5 ⟨rfl, hb5⟩
    have hD5 := hD4.later hb5
    have hF5 := hF4.later hb5
    have hG5 := hG4.later hb5
    have hw5 := hw4.trans (hb5.mono (by first | omega | (simp; omega) | simp))
    have s5 := hb5.size
    have lD5 := hD5.lt
    have lF5 := hF5.lt
    have lG5 := hG5.lt
    clear kD kF kG
    have kD := hD5.cell
    have kF := hF5.cell
    have kG := hG5.cell
    go_wp2_with fail
    refine (lives_any _).mono ?_; rintro e w6 ⟨rfl, hb6⟩
    have hD6 := hD5.later hb6
    have hF6 := hF5.later hb6
    have hG6 := hG5.later hb6
    have hw6 := hw5.trans (hb6.mono (by first | omega | (simp; omega) | simp))
    have s6 := hb6.size
    have lD6 := hD6.lt
    have lF6 := hF6.lt
    have lG6 := hG6.lt
    clear kD kF kG
    have kD := hD6.cell
    have kF := hF6.cell
    have kG := hG6.cell
    go_wp2_with fail
    go_ret
    exact ⟨rfl, hw6⟩

set_option maxHeartbeats 2000000 in
theorem walk_xxx (y m d o : Int) (f : Fc) (w : World) (M1 : Hid (∀ w, Hid (Calls Try.prog 37 #[D3 y m d, .int .i64 o] w fun e w' => e = .returned (.tuple #[.agg Z5, .int .i64 1]) ∧ Below w.heap.size w w'))) (M2 : Hid (∀ w, Hid (Calls Try.prog 38 #[f.val, D3 y m d] w fun e w' => e = .returned (.tuple #[.bool false, .int .i64 1]) ∧ Below w.heap.size w w'))) (M3 : Hid (∀ w, Hid (Calls Try.prog 39 #[D3 y m d] w fun e w' => e = .returned (.bool false) ∧ Below w.heap.size w w'))) :
    Calls Try.prog 9 #[D3 y m d, .int .i64 o, f.val] w fun e w' => e = .returned (.bool true) ∧ Below w.heap.size w w' := by
  go_enter Try.func9, Try.ntmps9
  have hw0 : Below w.heap.size w w := Below.refl _ _
  go_wp2_with fail
  refine ((M1.out _).out).mono ?_; rintro e w1 ⟨rfl, hb1⟩
  have hD1 := ((Blk.new w 30 #[.int .i64 y, .int .i64 m, .int .i64 d]).alloc _).later hb1
  have hF1 := (Blk.new1 w (.cells #[.int .i64 y, .int .i64 m, .int .i64 d] 30) 52 f.cells).later hb1
  have hw1 := ((hw0.alloc (by first | omega | (simp; omega) | simp) _).alloc (by first | omega | (simp; omega) | simp) _).trans (hb1.mono (by first | omega | (simp; omega) | simp))
  have s1 := hb1.size
  simp at s1
  have lD1 := hD1.lt
  have lF1 := hF1.lt
  have kD := hD1.cell
  have kF := hF1.cell
  go_wp2_with fail
  refine ((M2.out _).out).mono ?_; rintro e w2 ⟨rfl, hb2⟩
  have hD2 := (hD1.alloc _).later hb2
  have hF2 := (hF1.alloc _).later hb2
  have hG2 := (Blk.new w1 52 Z5).later hb2
  have hw2 := (hw1.alloc (by first | omega | (simp; omega) | simp) _).trans (hb2.mono (by first | omega | (simp; omega) | simp))
  have s2 := hb2.size
  simp at s2
  have lD2 := hD2.lt
  have lF2 := hF2.lt
  have lG2 := hG2.lt
  clear kD kF
  have kD := hD2.cell
  have kF := hF2.cell
  have kG := hG2.cell
  go_wp2_with fail
  refine ((M3.out _).out).mono ?_; rintro e w3 ⟨rfl, hb3⟩
  have hD3 := hD2.later hb3
  have hF3 := hF2.later hb3
  have hG3 := hG2.later hb3
  have hw3 := hw2.trans (hb3.mono (by first | omega | (simp; omega) | simp))
  have s3 := hb3.size
  have lD3 := hD3.lt
  have lF3 := hF3.lt
  have lG3 := hG3.lt
  clear kD kF kG
  have kD := hD3.cell
  have kF := hF3.cell
  have kG := hG3.cell
  go_wp2_with fail
  refine ((M3.out _).out).mono ?_; rintro e w4 ⟨rfl, hb4⟩
  have hD4 := hD3.later hb4
  have hF4 := hF3.later hb4
  have hG4 := hG3.later hb4
  have hw4 := hw3.trans (hb4.mono (by first | omega | (simp; omega) | simp))
  have s4 := hb4.size
  have lD4 := hD4.lt
  have lF4 := hF4.lt
  have lG4 := hG4.lt
  clear kD kF kG
  have kD := hD4.cell
  have kF := hF4.cell
  have kG := hG4.cell
  go_wp2_with fail
  refine (lives_any _).mono ?_; rintro e w5 ⟨rfl, hb5⟩
  have hD5 := hD4.later hb5
  have hF5 := hF4.later hb5
  have hG5 := hG4.later hb5
  have hw5 := hw4.trans (hb5.mono (by first | omega | (simp; omega) | simp))
  have s5 := hb5.size
  have lD5 := hD5.lt
  have lF5 := hF5.lt
  have lG5 := hG5.lt
  clear kD kF kG
  have kD := hD5.cell
  have kF := hF5.cell
  have kG := hG5.cell
  go_wp2_with fail
  go_ret
  exact ⟨rfl, hw5⟩

theorem walk (y m d o D M L W O : Int) (w : World) :
    Calls Try.prog 9 #[D3 y m d, .int .i64 o, .agg #[.int .i64 D, .int .i64 M, .int .i64 L, .int .i64 W, .int .i64 O]] w fun e w' => e = .returned (.bool true) ∧ Below w.heap.size w w' := by
  obtain ⟨f, hf⟩ : ∃ f : Fc, f = ⟨D, M, L, W, O⟩ := ⟨_, rfl⟩
  have e : (Value.agg #[.int .i64 D, .int .i64 M, .int .i64 L, .int .i64 W, .int .i64 O]) = f.val := by rw [hf]
  rw [e]
  clear e hf
  by_cases hd : Cal.ok y m d
  · have M3 := Lib.hid fun w => Lib.hid (rValid_yes y m d w hd)
    by_cases ho : 0 ≤ o ∧ o ≤ 58
    · have M1 := Lib.hid fun w => Lib.hid (Set_yes y m d o w hd ho.1 ho.2)
      have M4 := Lib.hid fun w => Lib.hid (rSet_any y m d o w hd)
      by_cases hf : f.ok
      · exact walk_dmf y m d o f _ _ w M1 (Lib.hid fun w => Lib.hid (Shows_yes f y m d w hf hd)) M3 M4 (Lib.hid fun w => Lib.hid (rFace_yes f w hf)) (Lib.hid fun w => Lib.hid (rShows_any f y m d w hd)) ho.1 ho.2
      · exact walk_dmx y m d o f _ w M1 (Lib.hid fun w => Lib.hid (Shows_no f y m d w fun h => hf h.1)) M3 M4 (Lib.hid fun w => Lib.hid (rFace_no f w hf)) ho.1 ho.2
    · have M1 := Lib.hid fun w => Lib.hid (Set_no y m d o w fun h => ho h.2)
      by_cases hf : f.ok
      · exact walk_dxf y m d o f _ w M1 (Lib.hid fun w => Lib.hid (Shows_yes f y m d w hf hd)) M3 (Lib.hid fun w => Lib.hid (rFace_yes f w hf)) (Lib.hid fun w => Lib.hid (rShows_any f y m d w hd)) (by omega)
      · exact walk_dxx y m d o f w M1 (Lib.hid fun w => Lib.hid (Shows_no f y m d w fun h => hf h.1)) M3 (Lib.hid fun w => Lib.hid (rFace_no f w hf)) (by omega)
  · exact walk_xxx y m d o f w (Lib.hid fun w => Lib.hid (Set_no y m d o w fun h => hd h.1)) (Lib.hid fun w => Lib.hid (Shows_no f y m d w fun h => hd h.2)) (Lib.hid fun w => Lib.hid (rValid_no y m d w hd))

set_option maxRecDepth 100000 in
theorem lifted (os : Os) (started : os.Started) (H : Type) (enc : TypeId × Value → H) :
    ReturnsInHanded {} Try.checked os 9 .any (Rows.dialSetsSpec.pre6 enc Try.prog Try.f9 Rows.dialSetsRow.domain false) (Rows.dialSetsSpec.post enc Try.prog Try.f9 false true false false) := by
  refine returnsInHanded_of_change (C := Try.checked) Try.own started (by kernel_rfl) Try.func9
    (ChangeSpec.witness6 (enc := enc) (C := Try.checked) false ⟨#[], #[.agg #[.int .i64 0, .int .i64 0, .int .i64 0], .int .i64 0, .agg #[.int .i64 0, .int .i64 0, .int .i64 0, .int .i64 0, .int .i64 0]], []⟩ 8 (by kernel_rfl) (by kernel_rfl) (by kernel_rfl) (by kernel_rfl)) ?_
  intro W base args ds gs before hval0 hW hcnd _
  have hval : ∀ (j : Nat) t v, Try.f9.params[j]? = some t → args[j]? = some v → Value.okWide Try.prog W .any base t v := hval0
  have hW' := hW
  obtain ⟨p, q, hA0, hV, rfl, hfz, hnd⟩ := hW
  have hA : DataW.TrodAll enc Try.prog W 0 (fun _ => true) true Try.f9.params.toList args.toList ds p := hA0
  rw [Try.params9] at hA hval
  obtain ⟨v0, vs0, d0, ds0, p0, q0, hargs, rfl, rfl, h0, r0⟩ := trodAll_cons hA
  obtain ⟨v1, vs1, d1, ds1, p1, q1, rfl, rfl, rfl, h1, r1⟩ := trodAll_cons r0
  obtain ⟨v2, vs2, d2, ds2, p2, q2, rfl, rfl, rfl, h2, r2⟩ := trodAll_cons r1
  obtain ⟨rfl, rfl, rfl⟩ := trodAll_nil r2
  obtain rfl : args = #[v0, v1, v2] := by cases args; simp_all
  obtain ⟨rfl, rfl⟩ := trodVars_none hV
  obtain ⟨a00, a01, a02, rfl⟩ := open_D (hval 0 30 v0 rfl rfl) h0
  obtain ⟨a1, rfl, rfl, rfl, w1⟩ := open_int Try.underlying3 (hval 1 3 v1 rfl rfl) h1
  obtain ⟨a20, a21, a22, a23, a24, rfl⟩ := open_F (hval 2 52 v2 rfl rfl) h2
  refine (walk a00 a01 a02 a1 a20 a21 a22 a23 a24 W).mono fun e W' ⟨he, hb⟩ => ?_
  exact ⟨_, he, law_post rfl (by kernel_rfl) (by kernel_rfl) hW' rfl rfl rfl hb⟩

set_option maxRecDepth 100000 in
theorem facts : joinedFacts Try.prog 9 Try.f9 Rows.dialSetsSpec Rows.dialSetsRow = true := by
  unfold joinedFacts
  repeat' (with_reducible refine and_t ?_ ?_)
  all_goals first
    | with_reducible exact Try.enters
    | (rw [Try.finals]; as_aux_lemma => kernel_rfl)
    | (rw [Try.made]; as_aux_lemma => kernel_rfl)
    | (as_aux_lemma => kernel_rfl)

theorem proved : Rows.DialSetsSaid :=
  OpenClaim.holds_of_wide 9 Try.f9 rfl rfl rfl rfl rfl rfl rfl ⟨rfl, rfl, rfl, rfl, rfl⟩ rfl rfl rfl rfl rfl (by as_aux_lemma => kernel_rfl) Try.func9 facts
    (of_decide_eq_true (by as_aux_lemma => kernel_rfl)) (by unfold Func.isWrapper; rw [if_neg (of_decide_eq_false (by kernel_rfl))]; exact ⟨rfl, rfl⟩)
    (fun os started H enc _ => lifted os started H enc)
#print axioms proved
end Go.Proofs.Ytjlnkghjiaglmaa.dialSets
