/-
  The contract of the reference's Face at a valid face.
  Conditions: as said.
-/
import Derived.Test.YtjlnkghjiaglmaaFaces2
namespace Go.Proofs.Ytjlnkghjiaglmaa
open Go.RowKit

set_option maxHeartbeats 1000000 in
theorem rFace_yes (f : Fc) (w : World) (h : f.ok) :
    Calls Try.prog 41 #[f.val] w fun e w' => e = .returned (.bool true) ∧ Below w.heap.size w w' := by
  obtain ⟨h1, h2, h3, h4, h5, h6, h7, h8, h9, h10⟩ := h
  have hx := later_cell (w := (w.alloc (.cells f.cells 52)))
  obtain ⟨D, M, L, W, O⟩ := f
  have h6' : D ≤ Cal.dl M (L == 0) := h6
  simp only at h1 h2 h3 h4 h5 h7 h8 h9 h10
  clear h6
  go_enter Try.func41, Try.ntmps41
  go_wp2_with fail
  refine wp_region_later (by kernel_rfl) (by kernel_rfl) ?_
  repeat (go_big_quiet_step (first
    | (go_at_call 68; exact later_same (in_yes _ _ _ _ (by omega) (by omega)))
    | (go_at_call 24; exact later_call (rLength_any _ _ _ (by omega) (by omega)))))
  refine wpQuiet_nil ?_
  rintro w2 ⟨⟨_, hb2⟩, rfl⟩
  clear hx
  go_wp2_with fail
  go_ret
  exact ⟨rfl, ((Below.refl _ _).alloc (Nat.le_refl _) _).trans (hb2.mono (by simp))⟩
end Go.Proofs.Ytjlnkghjiaglmaa
