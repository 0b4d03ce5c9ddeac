/-
  The contract of face of package dial, at a face that is not valid.
  Conditions: none.
-/
import Derived.Test.YtjlnkghjiaglmaaFaces
namespace Go.Proofs.Ytjlnkghjiaglmaa
open Go.RowKit

theorem no_cases (D M L W O l : Int) (h : ¬ (1 ≤ M ∧ M ≤ 12 ∧ 0 ≤ L ∧ L ≤ 3 ∧ 1 ≤ D ∧ D ≤ l ∧ 0 ≤ W ∧ W ≤ 6 ∧ 0 ≤ O ∧ O ≤ 58)) :
    decide (1 ≤ M) = false ∨ (1 ≤ M ∧ decide (M ≤ 12) = false) ∨ (1 ≤ M ∧ M ≤ 12 ∧ decide (0 ≤ L) = false) ∨ (1 ≤ M ∧ M ≤ 12 ∧ 0 ≤ L ∧ decide (L < 4) = false) ∨ (1 ≤ M ∧ M ≤ 12 ∧ 0 ≤ L ∧ L < 4 ∧ decide (1 ≤ D) = false) ∨ (1 ≤ M ∧ M ≤ 12 ∧ 0 ≤ L ∧ L < 4 ∧ 1 ≤ D ∧ decide (D ≤ l) = false) ∨ (1 ≤ M ∧ M ≤ 12 ∧ 0 ≤ L ∧ L < 4 ∧ 1 ≤ D ∧ D ≤ l ∧ decide (0 ≤ W) = false) ∨ (1 ≤ M ∧ M ≤ 12 ∧ 0 ≤ L ∧ L < 4 ∧ 1 ≤ D ∧ D ≤ l ∧ 0 ≤ W ∧ decide (W < 7) = false) ∨ (1 ≤ M ∧ M ≤ 12 ∧ 0 ≤ L ∧ L < 4 ∧ 1 ≤ D ∧ D ≤ l ∧ 0 ≤ W ∧ W < 7 ∧ decide (0 ≤ O) = false) ∨ (1 ≤ M ∧ M ≤ 12 ∧ 0 ≤ L ∧ L < 4 ∧ 1 ≤ D ∧ D ≤ l ∧ 0 ≤ W ∧ W < 7 ∧ 0 ≤ O ∧ decide (O < 59) = false) :=
  if c0 : 1 ≤ M then if c1 : M ≤ 12 then if c2 : 0 ≤ L then if c3 : L < 4 then if c4 : 1 ≤ D then if c5 : D ≤ l then if c6 : 0 ≤ W then if c7 : W < 7 then if c8 : 0 ≤ O then if c9 : O < 59 then absurd ⟨c0, c1, c2, by omega, c4, c5, c6, by omega, c8, by omega⟩ h else (.inr (.inr (.inr (.inr (.inr (.inr (.inr (.inr (.inr (⟨c0, c1, c2, c3, c4, c5, c6, c7, c8, decide_eq_false c9⟩)))))))))) else (.inr (.inr (.inr (.inr (.inr (.inr (.inr (.inr (.inl ⟨c0, c1, c2, c3, c4, c5, c6, c7, decide_eq_false c8⟩))))))))) else (.inr (.inr (.inr (.inr (.inr (.inr (.inr (.inl ⟨c0, c1, c2, c3, c4, c5, c6, decide_eq_false c7⟩)))))))) else (.inr (.inr (.inr (.inr (.inr (.inr (.inl ⟨c0, c1, c2, c3, c4, c5, decide_eq_false c6⟩))))))) else (.inr (.inr (.inr (.inr (.inr (.inl ⟨c0, c1, c2, c3, c4, decide_eq_false c5⟩)))))) else (.inr (.inr (.inr (.inr (.inl ⟨c0, c1, c2, c3, decide_eq_false c4⟩))))) else (.inr (.inr (.inr (.inl ⟨c0, c1, c2, decide_eq_false c3⟩)))) else (.inr (.inr (.inl ⟨c0, c1, decide_eq_false c2⟩))) else (.inr (.inl ⟨c0, decide_eq_false c1⟩)) else (.inl (decide_eq_false c0))

set_option maxHeartbeats 4000000 in
theorem face_no (f : Fc) (w : World) (h : ¬ f.ok) :
    Calls Try.prog 69 #[f.val] w fun e w' => e = .returned (.bool false) ∧ Below w.heap.size w w' := by
  have hl := fun w => Lib.hid (last_any f w)
  have HL := Lib.hid hl
  clear hl
  have hx := later_cell (w := (w.alloc (.cells f.cells 52)))
  unfold Fc.ok at h
  generalize f.lst = l at *
  obtain ⟨D, M, L, W, O⟩ := f
  simp only at h
  have hc := no_cases D M L W O l h
  clear h
  rcases hc with c | ⟨_, c⟩ | ⟨_, _, c⟩ | ⟨_, _, _, c⟩ | ⟨_, _, _, _, c⟩ | ⟨_, _, _, _, _, c⟩ | ⟨_, _, _, _, _, _, c⟩ | ⟨_, _, _, _, _, _, _, c⟩ | ⟨_, _, _, _, _, _, _, _, c⟩ | ⟨_, _, _, _, _, _, _, _, _, c⟩
  all_goals
    go_enter Try.func69, Try.ntmps69
    go_wp2_with fail
    refine wp_region_later (by kernel_rfl) (by kernel_rfl) ?_
    repeat (go_big_quiet_step ((go_at_call 74; exact later_call (HL.out _).out)))
    refine wpQuiet_nil ?_
    rintro w2 ⟨⟨_, hb2⟩, rfl⟩
    clear hx
    go_wp2_with fail
    go_ret
    exact ⟨rfl, ((Below.refl _ _).alloc (Nat.le_refl _) _).trans (hb2.mono (by simp))⟩

end Go.Proofs.Ytjlnkghjiaglmaa
