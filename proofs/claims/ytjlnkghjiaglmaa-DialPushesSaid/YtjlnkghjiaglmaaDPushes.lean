/-
  Proved: DialPushes: Pushes counts the pushes from one face to the other, or returns the error that the document names.
  Conditions: none.
-/
import Derived.Test.YtjlnkghjiaglmaaOpens
import Derived.Test.YtjlnkghjiaglmaaLives
import Derived.Test.YtjlnkghjiaglmaaCorr3
import Derived.Test.YtjlnkghjiaglmaaFaceNo2
import Derived.Test.YtjlnkghjiaglmaaRFace
import Derived.Test.YtjlnkghjiaglmaaSame
namespace Go.Proofs.Ytjlnkghjiaglmaa.dialPushes
open Go.ChangeShapes Go.WideShapes Go.ChangeAt Go.RowKit

set_option maxHeartbeats 2000000 in
theorem walk_y (f t : Fc) (a b c d : Int) (w : World) (M1 : Hid (∀ w, Hid (Calls Try.prog 56 #[f.val, t.val] w fun e w' => e = .returned (.tuple #[.int .i64 a, .int .i64 b, .int .i64 c, .int .i64 d, .int .i64 0]) ∧ Below w.heap.size w w'))) (M2 : Hid (∀ w, Hid (Calls Try.prog 57 #[f.val, t.val] w fun e w' => e = .returned (.tuple #[.int .i64 a, .int .i64 b, .int .i64 c, .int .i64 d, .bool true]) ∧ Below w.heap.size w w'))) (M3 : Hid (∀ w, Hid (Calls Try.prog 41 #[f.val] w fun e w' => e = .returned (.bool true) ∧ Below w.heap.size w w'))) (M4 : Hid (∀ w, Hid (Calls Try.prog 41 #[t.val] w fun e w' => e = .returned (.bool true) ∧ Below w.heap.size w w'))) :
    Calls Try.prog 17 #[f.val, t.val] w fun e w' => e = .returned (.bool true) ∧ Below w.heap.size w w' := by
  go_enter Try.func17, Try.ntmps17
  have hw0 : Below w.heap.size w w := Below.refl _ _
  go_wp2_with fail
  refine ((M1.out _).out).mono ?_; rintro e w1 ⟨rfl, hb1⟩
  have hF1 := ((Blk.new w 52 f.cells).alloc _).later hb1
  have hT1 := (Blk.new1 w (.cells f.cells 52) 52 t.cells).later hb1
  have hw1 := ((hw0.alloc (by first | omega | (simp; omega) | simp) _).alloc (by first | omega | (simp; omega) | simp) _).trans (hb1.mono (by first | omega | (simp; omega) | simp))
  have s1 := hb1.size
  simp at s1
  have lF1 := hF1.lt
  have lT1 := hT1.lt
  have kF := hF1.cell
  have kT := hT1.cell
  go_wp2_with fail
  refine ((M3.out _).out).mono ?_; rintro e w2 ⟨rfl, hb2⟩
  have hF2 := hF1.later hb2
  have hT2 := hT1.later hb2
  have hw2 := hw1.trans (hb2.mono (by first | omega | (simp; omega) | simp))
  have s2 := hb2.size
  have lF2 := hF2.lt
  have lT2 := hT2.lt
  clear kF kT
  have kF := hF2.cell
  have kT := hT2.cell
  go_wp2_with fail
  refine ((M4.out _).out).mono ?_; rintro e w3 ⟨rfl, hb3⟩
  have hF3 := hF2.later hb3
  have hT3 := hT2.later hb3
  have hw3 := hw2.trans (hb3.mono (by first | omega | (simp; omega) | simp))
  have s3 := hb3.size
  have lF3 := hF3.lt
  have lT3 := hT3.lt
  clear kF kT
  have kF := hF3.cell
  have kT := hT3.cell
  go_wp2_with fail
  refine ((M2.out _).out).mono ?_; rintro e w4 ⟨rfl, hb4⟩
  have hF4 := hF3.later hb4
  have hT4 := hT3.later hb4
  have hw4 := hw3.trans (hb4.mono (by first | omega | (simp; omega) | simp))
  have s4 := hb4.size
  have lF4 := hF4.lt
  have lT4 := hT4.lt
  clear kF kT
  have kF := hF4.cell
  have kT := hT4.cell
  go_wp2_with fail
  refine (same_true _ _ 4 4 4 [a, b, c, d] _ (RowI.of_blk [a, b, c, d] ((Blk.new w4 3 #[.int .i64 a, .int .i64 b, .int .i64 c, .int .i64 d]).alloc _) rfl 4 rfl) (RowI.of_blk [a, b, c, d] (Blk.new1 w4 _ 3 #[.int .i64 a, .int .i64 b, .int .i64 c, .int .i64 d]) rfl 4 rfl) (by omega)).mono ?_
  rintro e w5 ⟨rfl, hb5⟩
  have hF5 := ((hF4.alloc _).alloc _).later hb5
  have hT5 := ((hT4.alloc _).alloc _).later hb5
  have hw5 := ((hw4.alloc (by first | omega | (simp; omega) | simp) _).alloc (by first | omega | (simp; omega) | simp) _).trans (hb5.mono (by first | omega | (simp; omega) | simp))
  have s5 := hb5.size
  simp at s5
  have lF5 := hF5.lt
  have lT5 := hT5.lt
  clear kF kT
  have kF := hF5.cell
  have kT := hT5.cell
  go_wp2_with fail
  refine (lives_any _).mono ?_; rintro e w6 ⟨rfl, hb6⟩
  have hF6 := hF5.later hb6
  have hT6 := hT5.later hb6
  have hw6 := hw5.trans (hb6.mono (by first | omega | (simp; omega) | simp))
  have s6 := hb6.size
  have lF6 := hF6.lt
  have lT6 := hT6.lt
  clear kF kT
  have kF := hF6.cell
  have kT := hT6.cell
  go_wp2_with fail
  go_ret
  exact ⟨rfl, hw6⟩

set_option maxHeartbeats 2000000 in
theorem walk_n (f t : Fc) (w : World) (M1 : Hid (∀ w, Hid (Calls Try.prog 56 #[f.val, t.val] w fun e w' => e = .returned (.tuple #[.int .i64 0, .int .i64 0, .int .i64 0, .int .i64 0, .int .i64 6]) ∧ Below w.heap.size w w'))) (M2 : Hid (∀ w, Hid (Calls Try.prog 57 #[f.val, t.val] w fun e w' => e = .returned (.tuple #[.int .i64 0, .int .i64 0, .int .i64 0, .int .i64 0, .bool false]) ∧ Below w.heap.size w w'))) (M3 : Hid (∀ w, Hid (Calls Try.prog 41 #[f.val] w fun e w' => e = .returned (.bool true) ∧ Below w.heap.size w w'))) (M4 : Hid (∀ w, Hid (Calls Try.prog 41 #[t.val] w fun e w' => e = .returned (.bool true) ∧ Below w.heap.size w w'))) :
    Calls Try.prog 17 #[f.val, t.val] w fun e w' => e = .returned (.bool true) ∧ Below w.heap.size w w' := by
  go_enter Try.func17, Try.ntmps17
  have hw0 : Below w.heap.size w w := Below.refl _ _
  go_wp2_with fail
  refine ((M1.out _).out).mono ?_; rintro e w1 ⟨rfl, hb1⟩
  have hF1 := ((Blk.new w 52 f.cells).alloc _).later hb1
  have hT1 := (Blk.new1 w (.cells f.cells 52) 52 t.cells).later hb1
  have hw1 := ((hw0.alloc (by first | omega | (simp; omega) | simp) _).alloc (by first | omega | (simp; omega) | simp) _).trans (hb1.mono (by first | omega | (simp; omega) | simp))
  have s1 := hb1.size
  simp at s1
  have lF1 := hF1.lt
  have lT1 := hT1.lt
  have kF := hF1.cell
  have kT := hT1.cell
  go_wp2_with fail
  refine ((M3.out _).out).mono ?_; rintro e w2 ⟨rfl, hb2⟩
  have hF2 := hF1.later hb2
  have hT2 := hT1.later hb2
  have hw2 := hw1.trans (hb2.mono (by first | omega | (simp; omega) | simp))
  have s2 := hb2.size
  have lF2 := hF2.lt
  have lT2 := hT2.lt
  clear kF kT
  have kF := hF2.cell
  have kT := hT2.cell
  go_wp2_with fail
  refine ((M4.out _).out).mono ?_; rintro e w3 ⟨rfl, hb3⟩
  have hF3 := hF2.later hb3
  have hT3 := hT2.later hb3
  have hw3 := hw2.trans (hb3.mono (by first | omega | (simp; omega) | simp))
  have s3 := hb3.size
  have lF3 := hF3.lt
  have lT3 := hT3.lt
  clear kF kT
  have kF := hF3.cell
  have kT := hT3.cell
  go_wp2_with fail
  refine ((M2.out _).out).mono ?_; rintro e w4 ⟨rfl, hb4⟩
  have hF4 := hF3.later hb4
  have hT4 := hT3.later hb4
  have hw4 := hw3.trans (hb4.mono (by first | omega | (simp; omega) | simp))
  have s4 := hb4.size
  have lF4 := hF4.lt
  have lT4 := hT4.lt
  clear kF kT
  have kF := hF4.cell
  have kT := hT4.cell
  go_wp2_with fail
  refine (same_true _ _ 4 4 4 [0, 0, 0, 0] _ (RowI.of_blk [0, 0, 0, 0] ((Blk.new w4 3 #[.int .i64 0, .int .i64 0, .int .i64 0, .int .i64 0]).alloc _) rfl 4 rfl) (RowI.of_blk [0, 0, 0, 0] (Blk.new1 w4 _ 3 #[.int .i64 0, .int .i64 0, .int .i64 0, .int .i64 0]) rfl 4 rfl) (by omega)).mono ?_
  rintro e w5 ⟨rfl, hb5⟩
  have hF5 := ((hF4.alloc _).alloc _).later hb5
  have hT5 := ((hT4.alloc _).alloc _).later hb5
  have hw5 := ((hw4.alloc (by first | omega | (simp; omega) | simp) _).alloc (by first | omega | (simp; omega) | simp) _).trans (hb5.mono (by first | omega | (simp; omega) | simp))
  have s5 := hb5.size
  simp at s5
  have lF5 := hF5.lt
  have lT5 := hT5.lt
  clear kF kT
  have kF := hF5.cell
  have kT := hT5.cell
  go_wp2_with fail
  refine (lives_any _).mono ?_; rintro e w6 ⟨rfl, hb6⟩
  have hF6 := hF5.later hb6
  have hT6 := hT5.later hb6
  have hw6 := hw5.trans (hb6.mono (by first | omega | (simp; omega) | simp))
  have s6 := hb6.size
  have lF6 := hF6.lt
  have lT6 := hT6.lt
  clear kF kT
  have kF := hF6.cell
  have kT := hT6.cell
  go_wp2_with fail
  go_ret
  exact ⟨rfl, hw6⟩

set_option maxHeartbeats 2000000 in
theorem walk_by (f t : Fc) (w : World) (M1 : Hid (∀ w, Hid (Calls Try.prog 56 #[f.val, t.val] w fun e w' => e = .returned (.tuple #[.int .i64 0, .int .i64 0, .int .i64 0, .int .i64 0, .int .i64 1]) ∧ Below w.heap.size w w'))) (M3 : Hid (∀ w, Hid (Calls Try.prog 41 #[f.val] w fun e w' => e = .returned (.bool true) ∧ Below w.heap.size w w'))) (M4 : Hid (∀ w, Hid (Calls Try.prog 41 #[t.val] w fun e w' => e = .returned (.bool false) ∧ Below w.heap.size w w'))) :
    Calls Try.prog 17 #[f.val, t.val] w fun e w' => e = .returned (.bool true) ∧ Below w.heap.size w w' := by
  go_enter Try.func17, Try.ntmps17
  have hw0 : Below w.heap.size w w := Below.refl _ _
  go_wp2_with fail
  refine ((M1.out _).out).mono ?_; rintro e w1 ⟨rfl, hb1⟩
  have hF1 := ((Blk.new w 52 f.cells).alloc _).later hb1
  have hT1 := (Blk.new1 w (.cells f.cells 52) 52 t.cells).later hb1
  have hw1 := ((hw0.alloc (by first | omega | (simp; omega) | simp) _).alloc (by first | omega | (simp; omega) | simp) _).trans (hb1.mono (by first | omega | (simp; omega) | simp))
  have s1 := hb1.size
  simp at s1
  have lF1 := hF1.lt
  have lT1 := hT1.lt
  have kF := hF1.cell
  have kT := hT1.cell
  go_wp2_with fail
  refine ((M3.out _).out).mono ?_; rintro e w2 ⟨rfl, hb2⟩
  have hF2 := hF1.later hb2
  have hT2 := hT1.later hb2
  have hw2 := hw1.trans (hb2.mono (by first | omega | (simp; omega) | simp))
  have s2 := hb2.size
  have lF2 := hF2.lt
  have lT2 := hT2.lt
  clear kF kT
  have kF := hF2.cell
  have kT := hT2.cell
  go_wp2_with fail
  refine ((M4.out _).out).mono ?_; rintro e w3 ⟨rfl, hb3⟩
  have hF3 := hF2.later hb3
  have hT3 := hT2.later hb3
  have hw3 := hw2.trans (hb3.mono (by first | omega | (simp; omega) | simp))
  have s3 := hb3.size
  have lF3 := hF3.lt
  have lT3 := hT3.lt
  clear kF kT
  have kF := hF3.cell
  have kT := hT3.cell
  go_wp2_with fail
  refine (same_true _ _ 4 4 4 [0, 0, 0, 0] _ (RowI.of_blk [0, 0, 0, 0] ((Blk.new w3 3 #[.int .i64 0, .int .i64 0, .int .i64 0, .int .i64 0]).alloc _) rfl 4 rfl) (RowI.of_blk [0, 0, 0, 0] (Blk.new1 w3 _ 3 #[.int .i64 0, .int .i64 0, .int .i64 0, .int .i64 0]) rfl 4 rfl) (by omega)).mono ?_
  rintro e w4 ⟨rfl, hb4⟩
  have hF4 := ((hF3.alloc _).alloc _).later hb4
  have hT4 := ((hT3.alloc _).alloc _).later hb4
  have hw4 := ((hw3.alloc (by first | omega | (simp; omega) | simp) _).alloc (by first | omega | (simp; omega) | simp) _).trans (hb4.mono (by first | omega | (simp; omega) | simp))
  have s4 := hb4.size
  simp at s4
  have lF4 := hF4.lt
  have lT4 := hT4.lt
  clear kF kT
  have kF := hF4.cell
  have kT := hT4.cell
  go_wp2_with fail
  refine (lives_any _).mono ?_; rintro e w5 ⟨rfl, hb5⟩
  have hF5 := hF4.later hb5
  have hT5 := hT4.later hb5
  have hw5 := hw4.trans (hb5.mono (by first | omega | (simp; omega) | simp))
  have s5 := hb5.size
  have lF5 := hF5.lt
  have lT5 := hT5.lt
  clear kF kT
  have kF := hF5.cell
  have kT := hT5.cell
  go_wp2_with fail
  go_ret
  exact ⟨rfl, hw5⟩

set_option maxHeartbeats 2000000 in
theorem walk_bn (f t : Fc) (w : World) (M1 : Hid (∀ w, Hid (Calls Try.prog 56 #[f.val, t.val] w fun e w' => e = .returned (.tuple #[.int .i64 0, .int .i64 0, .int .i64 0, .int .i64 0, .int .i64 1]) ∧ Below w.heap.size w w'))) (M3 : Hid (∀ w, Hid (Calls Try.prog 41 #[f.val] w fun e w' => e = .returned (.bool false) ∧ Below w.heap.size w w'))) :
    Calls Try.prog 17 #[f.val, t.val] w fun e w' => e = .returned (.bool true) ∧ Below w.heap.size w w' := by
  go_enter Try.func17, Try.ntmps17
  have hw0 : Below w.heap.size w w := Below.refl _ _
  go_wp2_with fail
  refine ((M1.out _).out).mono ?_; rintro e w1 ⟨rfl, hb1⟩
  have hF1 := ((Blk.new w 52 f.cells).alloc _).later hb1
  have hT1 := (Blk.new1 w (.cells f.cells 52) 52 t.cells).later hb1
  have hw1 := ((hw0.alloc (by first | omega | (simp; omega) | simp) _).alloc (by first | omega | (simp; omega) | simp) _).trans (hb1.mono (by first | omega | (simp; omega) | simp))
  have s1 := hb1.size
  simp at s1
  have lF1 := hF1.lt
  have lT1 := hT1.lt
  have kF := hF1.cell
  have kT := hT1.cell
  go_wp2_with fail
  refine ((M3.out _).out).mono ?_; rintro e w2 ⟨rfl, hb2⟩
  have hF2 := hF1.later hb2
  have hT2 := hT1.later hb2
  have hw2 := hw1.trans (hb2.mono (by first | omega | (simp; omega) | simp))
  have s2 := hb2.size
  have lF2 := hF2.lt
  have lT2 := hT2.lt
  clear kF kT
  have kF := hF2.cell
  have kT := hT2.cell
  go_wp2_with fail
  refine (same_true _ _ 4 4 4 [0, 0, 0, 0] _ (RowI.of_blk [0, 0, 0, 0] ((Blk.new w2 3 #[.int .i64 0, .int .i64 0, .int .i64 0, .int .i64 0]).alloc _) rfl 4 rfl) (RowI.of_blk [0, 0, 0, 0] (Blk.new1 w2 _ 3 #[.int .i64 0, .int .i64 0, .int .i64 0, .int .i64 0]) rfl 4 rfl) (by omega)).mono ?_
  rintro e w3 ⟨rfl, hb3⟩
  have hF3 := ((hF2.alloc _).alloc _).later hb3
  have hT3 := ((hT2.alloc _).alloc _).later hb3
  have hw3 := ((hw2.alloc (by first | omega | (simp; omega) | simp) _).alloc (by first | omega | (simp; omega) | simp) _).trans (hb3.mono (by first | omega | (simp; omega) | simp))
  have s3 := hb3.size
  simp at s3
  have lF3 := hF3.lt
  have lT3 := hT3.lt
  clear kF kT
  have kF := hF3.cell
  have kT := hT3.cell
  go_wp2_with fail
  refine (lives_any _).mono ?_; rintro e w4 ⟨rfl, hb4⟩
  have hF4 := hF3.later hb4
  have hT4 := hT3.later hb4
  have hw4 := hw3.trans (hb4.mono (by first | omega | (simp; omega) | simp))
  have s4 := hb4.size
  have lF4 := hF4.lt
  have lT4 := hT4.lt
  clear kF kT
  have kF := hF4.cell
  have kT := hT4.cell
  go_wp2_with fail
  go_ret
  exact ⟨rfl, hw4⟩

theorem walk (D M L W O D' M' L' W' O' : Int) (w : World) :
    Calls Try.prog 17 #[.agg #[.int .i64 D, .int .i64 M, .int .i64 L, .int .i64 W, .int .i64 O], .agg #[.int .i64 D', .int .i64 M', .int .i64 L', .int .i64 W', .int .i64 O']] w fun e w' => e = .returned (.bool true) ∧ Below w.heap.size w w' := by
  obtain ⟨f, hf⟩ : ∃ f : Fc, f = ⟨D, M, L, W, O⟩ := ⟨_, rfl⟩
  obtain ⟨t, ht⟩ : ∃ t : Fc, t = ⟨D', M', L', W', O'⟩ := ⟨_, rfl⟩
  have e : (Value.agg #[.int .i64 D, .int .i64 M, .int .i64 L, .int .i64 W, .int .i64 O]) = f.val := by rw [hf]
  have e' : (Value.agg #[.int .i64 D', .int .i64 M', .int .i64 L', .int .i64 W', .int .i64 O']) = t.val := by rw [ht]
  rw [e, e']
  clear e e' hf ht
  by_cases hf : f.ok
  · have M3 := Lib.hid fun w => Lib.hid (rFace_yes f w hf)
    by_cases ht : t.ok
    · have M4 := Lib.hid fun w => Lib.hid (rFace_yes t w ht)
      by_cases hD : (f.reached t).D ≤ t.D
      · have M1 := Lib.hid fun w => Lib.hid (Pushes_any f t w hf ht)
        have M2 := Lib.hid fun w => Lib.hid (rPushes_any f t w hf ht)
        have e1 : pushV f t = _ := if_pos hD
        have e2 : rPushV f t = _ := if_pos hD
        rw [e1] at M1
        rw [e2] at M2
        exact walk_y f t _ _ _ _ w M1 M2 M3 M4
      · have M1 := Lib.hid fun w => Lib.hid (Pushes_any f t w hf ht)
        have M2 := Lib.hid fun w => Lib.hid (rPushes_any f t w hf ht)
        have e1 : pushV f t = _ := if_neg hD
        have e2 : rPushV f t = _ := if_neg hD
        rw [e1] at M1
        rw [e2] at M2
        exact walk_n f t w M1 M2 M3 M4
    · exact walk_by f t w (Lib.hid fun w => Lib.hid (Pushes_no f t w fun h => ht h.2)) M3 (Lib.hid fun w => Lib.hid (rFace_no t w ht))
  · exact walk_bn f t w (Lib.hid fun w => Lib.hid (Pushes_no f t w fun h => hf h.1)) (Lib.hid fun w => Lib.hid (rFace_no f w hf))

set_option maxRecDepth 100000 in
theorem lifted (os : Os) (started : os.Started) (H : Type) (enc : TypeId × Value → H) :
    ReturnsInHanded {} Try.checked os 17 .any (Rows.dialPushesSpec.pre6 enc Try.prog Try.f17 Rows.dialPushesRow.domain false) (Rows.dialPushesSpec.post enc Try.prog Try.f17 false true false false) := by
  refine returnsInHanded_of_change (C := Try.checked) Try.own started (by kernel_rfl) Try.func17
    (ChangeSpec.witness6 (enc := enc) (C := Try.checked) false ⟨#[], #[.agg #[.int .i64 0, .int .i64 0, .int .i64 0, .int .i64 0, .int .i64 0], .agg #[.int .i64 0, .int .i64 0, .int .i64 0, .int .i64 0, .int .i64 0]], []⟩ 8 (by kernel_rfl) (by kernel_rfl) (by kernel_rfl) (by kernel_rfl)) ?_
  intro W base args ds gs before hval0 hW hcnd _
  have hval : ∀ (j : Nat) t v, Try.f17.params[j]? = some t → args[j]? = some v → Value.okWide Try.prog W .any base t v := hval0
  have hW' := hW
  obtain ⟨p, q, hA0, hV, rfl, hfz, hnd⟩ := hW
  have hA : DataW.TrodAll enc Try.prog W 0 (fun _ => true) true Try.f17.params.toList args.toList ds p := hA0
  rw [Try.params17] at hA hval
  obtain ⟨v0, vs0, d0, ds0, p0, q0, hargs, rfl, rfl, h0, r0⟩ := trodAll_cons hA
  obtain ⟨v1, vs1, d1, ds1, p1, q1, rfl, rfl, rfl, h1, r1⟩ := trodAll_cons r0
  obtain ⟨rfl, rfl, rfl⟩ := trodAll_nil r1
  obtain rfl : args = #[v0, v1] := by cases args; simp_all
  obtain ⟨rfl, rfl⟩ := trodVars_none hV
  obtain ⟨a00, a01, a02, a03, a04, rfl⟩ := open_F (hval 0 52 v0 rfl rfl) h0
  obtain ⟨a10, a11, a12, a13, a14, rfl⟩ := open_F (hval 1 52 v1 rfl rfl) h1
  refine (walk a00 a01 a02 a03 a04 a10 a11 a12 a13 a14 W).mono fun e W' ⟨he, hb⟩ => ?_
  exact ⟨_, he, law_post rfl (by kernel_rfl) (by kernel_rfl) hW' rfl rfl rfl hb⟩

set_option maxRecDepth 100000 in
theorem facts : joinedFacts Try.prog 17 Try.f17 Rows.dialPushesSpec Rows.dialPushesRow = true := by
  unfold joinedFacts
  repeat' (with_reducible refine and_t ?_ ?_)
  all_goals first
    | with_reducible exact Try.enters
    | (rw [Try.finals]; as_aux_lemma => kernel_rfl)
    | (rw [Try.made]; as_aux_lemma => kernel_rfl)
    | (as_aux_lemma => kernel_rfl)

theorem proved : Rows.DialPushesSaid :=
  OpenClaim.holds_of_wide 17 Try.f17 rfl rfl rfl rfl rfl rfl rfl ⟨rfl, rfl, rfl, rfl, rfl⟩ rfl rfl rfl rfl rfl (by as_aux_lemma => kernel_rfl) Try.func17 facts
    (of_decide_eq_true (by as_aux_lemma => kernel_rfl)) (by unfold Func.isWrapper; rw [if_neg (of_decide_eq_false (by kernel_rfl))]; exact ⟨rfl, rfl⟩)
    (fun os started H enc _ => lifted os started H enc)
#print axioms proved
end Go.Proofs.Ytjlnkghjiaglmaa.dialPushes
