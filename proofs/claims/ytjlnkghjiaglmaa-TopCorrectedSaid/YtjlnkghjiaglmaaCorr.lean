/-
  The contract of Correct of package dial at a valid face, a push a theorem.
  Conditions: the face is valid.
-/
import Derived.Test.YtjlnkghjiaglmaaNights
import Derived.Test.YtjlnkghjiaglmaaFc2
import Derived.Deep.RegionHeld3
namespace Go.Proofs.Ytjlnkghjiaglmaa
open Go.RowKit

set_option maxHeartbeats 1000000 in
theorem Correct_day (f : Fc) (w : World) (h : f.ok) :
    Calls Try.prog 52 #[f.val, .int .i64 1] w fun e w' => e = .returned (.tuple #[f.day.val, .int .i64 0]) ∧ Below w.heap.size w w' := by
  have hf := fun w => Lib.hid (face_yes f w h)
  have hm := fun w => Lib.hid (day_any f w h.okM h.2.2.2.2.1 h.2.2.2.2.2.1)
  have HF := Lib.hid hf
  have HM := Lib.hid hm
  clear hf hm h
  have hB := (Blk.new w 52 f.cells).alloc (.cells Z5 52)
  have hR := Blk.new1 w (.cells f.cells 52) 52 Z5
  have hbw := below2 w (.cells f.cells 52) (.cells Z5 52)
  generalize f.day = g at *
  obtain ⟨g1, g2, g3, g4, g5⟩ := g
  go_enter Try.func52, Try.ntmps52
  go_wp2_with fail
  refine (HF.out _).out.mono ?_; rintro e w1 ⟨rfl, hb1⟩
  have hB1 := hB.later hb1
  have hR1 := hR.later hb1
  have k1 := hB1.cell
  have l1 := hR1.lt
  go_wp2_with fail
  refine (HM.out _).out.mono ?_; rintro e w2 ⟨rfl, hb2⟩
  have hR2 := hR1.later hb2
  have k2 := hR2.cell
  have kf2 := hR2.frozen
  have l2 := hR2.lt
  have s2 := hb2.size
  clear k1
  go_wp2_with fail
  refine bodyPost_cell (w.heap.size + 1) 52 (Fc.cells ⟨g1, g2, g3, g4, g5⟩) (.tuple #[Fc.val ⟨g1, g2, g3, g4, g5⟩, .int .i64 0]) ?_ ?_ ⟨rfl, ?_⟩
  · exact ((((hR2.set_ 0 _).set_ 1 _).set_ 2 _).set_ 3 _).set_ 4 _
  · intro W' hW'
    simp [results, Try.results52, go_sem, hW']
  · have t := (hbw.trans (hb1.mono (by simp; omega))).trans (hb2.mono (by omega))
    exact ((((t.setCell (by simp) _).setCell (by simp) _).setCell (by simp) _).setCell (by simp) _).setCell (by simp) _

set_option maxHeartbeats 1000000 in
theorem Correct_weekday (f : Fc) (w : World) (h : f.ok) :
    Calls Try.prog 52 #[f.val, .int .i64 3] w fun e w' => e = .returned (.tuple #[f.wday.val, .int .i64 0]) ∧ Below w.heap.size w w' := by
  have hf := fun w => Lib.hid (face_yes f w h)
  have HF := Lib.hid hf
  obtain ⟨_, _, _, _, _, _, h7, h8, _, _⟩ := h
  clear hf
  have hB := (Blk.new w 52 f.cells).alloc (.cells Z5 52)
  have hR := Blk.new1 w (.cells f.cells 52) 52 Z5
  have hbw := below2 w (.cells f.cells 52) (.cells Z5 52)
  obtain ⟨D, M, L, W, O⟩ := f
  simp only at h7 h8
  go_enter Try.func52, Try.ntmps52
  go_wp2_with fail
  refine (HF.out _).out.mono ?_; rintro e w1 ⟨rfl, hb1⟩
  have hB1 := hB.later hb1
  have hR1 := hR.later hb1
  have k1 := hB1.cell
  have kf1 := hB1.frozen
  have k2 := hR1.cell
  have kf2 := hR1.frozen
  have l1 := hR1.lt
  go_wp2_with fail
  refine bodyPost_cell (w.heap.size + 1) 52 (Fc.cells ⟨D, M, L, (W + 1) % 7, O⟩) (.tuple #[Fc.val ⟨D, M, L, (W + 1) % 7, O⟩, .int .i64 0]) ?_ ?_ ⟨rfl, ?_⟩
  · exact (((((hR1.far (p := ⟨w.heap.size, 3, none⟩) (by simp) _).set_ 0 _).set_ 1 _).set_ 2 _).set_ 3 _).set_ 4 _
  · intro W' hW'
    simp [results, Try.results52, go_sem, hW']
  · have t := hbw.trans (hb1.mono (by simp; omega))
    exact (((((t.setCell (by simp) _).setCell (by simp) _).setCell (by simp) _).setCell (by simp) _).setCell (by simp) _).setCell (by simp) _

set_option maxHeartbeats 1000000 in
theorem Correct_moon (f : Fc) (w : World) (h : f.ok) :
    Calls Try.prog 52 #[f.val, .int .i64 4] w fun e w' => e = .returned (.tuple #[f.moon.val, .int .i64 0]) ∧ Below w.heap.size w w' := by
  have hf := fun w => Lib.hid (face_yes f w h)
  have HF := Lib.hid hf
  obtain ⟨_, _, _, _, _, _, _, _, h9, h10⟩ := h
  clear hf
  have hB := (Blk.new w 52 f.cells).alloc (.cells Z5 52)
  have hR := Blk.new1 w (.cells f.cells 52) 52 Z5
  have hbw := below2 w (.cells f.cells 52) (.cells Z5 52)
  obtain ⟨D, M, L, W, O⟩ := f
  simp only at h9 h10
  go_enter Try.func52, Try.ntmps52
  go_wp2_with fail
  refine (HF.out _).out.mono ?_; rintro e w1 ⟨rfl, hb1⟩
  have hB1 := hB.later hb1
  have hR1 := hR.later hb1
  have k1 := hB1.cell
  have kf1 := hB1.frozen
  have k2 := hR1.cell
  have kf2 := hR1.frozen
  have l1 := hR1.lt
  go_wp2_with fail
  refine bodyPost_cell (w.heap.size + 1) 52 (Fc.cells ⟨D, M, L, W, (O + 1) % 59⟩) (.tuple #[Fc.val ⟨D, M, L, W, (O + 1) % 59⟩, .int .i64 0]) ?_ ?_ ⟨rfl, ?_⟩
  · exact (((((hR1.far (p := ⟨w.heap.size, 4, none⟩) (by simp) _).set_ 0 _).set_ 1 _).set_ 2 _).set_ 3 _).set_ 4 _
  · intro W' hW'
    simp [results, Try.results52, go_sem, hW']
  · have t := hbw.trans (hb1.mono (by simp; omega))
    exact (((((t.setCell (by simp) _).setCell (by simp) _).setCell (by simp) _).setCell (by simp) _).setCell (by simp) _).setCell (by simp) _
end Go.Proofs.Ytjlnkghjiaglmaa
