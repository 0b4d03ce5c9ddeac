/-
  The contract of the reference's Correct at a valid face: the pushes of the weekday and of the moon.
  Conditions: as said.
-/
import Derived.Test.YtjlnkghjiaglmaaCorr2
namespace Go.Proofs.Ytjlnkghjiaglmaa
open Go.RowKit

set_option maxHeartbeats 1000000 in
theorem rCorrect_weekday (f : Fc) (w : World) (h : f.ok) :
    Calls Try.prog 54 #[f.val, .int .i64 3] w fun e w' => e = .returned f.wday.val ∧ Below w.heap.size w w' := by
  obtain ⟨_, _, _, _, _, _, h7, h8, _, _⟩ := h
  obtain ⟨D, M, L, W, O⟩ := f
  simp only at h7 h8
  go_enter Try.func54, Try.ntmps54
  go_wp2_with fail
  refine bodyPost_cell (w.heap.size + 1) 52 (Fc.cells ⟨D, M, L, (W + 1) % 7, O⟩) (Fc.val ⟨D, M, L, (W + 1) % 7, O⟩) ?_ ?_ ⟨rfl, ?_⟩
  · exact Blk.new1 w _ 52 _
  · intro W' hW'
    simp [results, Try.results54, go_sem, hW']
  · exact below2 w _ _

set_option maxHeartbeats 1000000 in
theorem rCorrect_moon (f : Fc) (w : World) (h : f.ok) :
    Calls Try.prog 54 #[f.val, .int .i64 4] w fun e w' => e = .returned f.moon.val ∧ Below w.heap.size w w' := by
  obtain ⟨_, _, _, _, _, _, _, _, h9, h10⟩ := h
  obtain ⟨D, M, L, W, O⟩ := f
  simp only at h9 h10
  go_enter Try.func54, Try.ntmps54
  go_wp2_with fail
  refine bodyPost_cell (w.heap.size + 1) 52 (Fc.cells ⟨D, M, L, W, (O + 1) % 59⟩) (Fc.val ⟨D, M, L, W, (O + 1) % 59⟩) ?_ ?_ ⟨rfl, ?_⟩
  · exact Blk.new1 w _ 52 _
  · intro W' hW'
    simp [results, Try.results54, go_sem, hW']
  · exact below2 w _ _
end Go.Proofs.Ytjlnkghjiaglmaa
