/-
  The contract of the reference's Face, at a face that is not valid; of Pushes, Midnight, Correct of package dial at such faces.
  Conditions: none.
-/
import Derived.Test.YtjlnkghjiaglmaaFaceNo
import Derived.Test.YtjlnkghjiaglmaaFaces2
namespace Go.Proofs.Ytjlnkghjiaglmaa
open Go.RowKit

/-- The four tests of the reference, in their order: month, leap, day, weekday, moon. -/
theorem no_cases5 (D M L W O l : Int) (h : ¬ (1 ≤ M ∧ M ≤ 12 ∧ 0 ≤ L ∧ L ≤ 3 ∧ 1 ≤ D ∧ D ≤ l ∧ 0 ≤ W ∧ W ≤ 6 ∧ 0 ≤ O ∧ O ≤ 58)) :
    (Hid (¬ (1 ≤ M ∧ M ≤ 12))) ∨ (1 ≤ M ∧ M ≤ 12 ∧ Hid (¬ (0 ≤ L ∧ L ≤ 3))) ∨ (1 ≤ M ∧ M ≤ 12 ∧ 0 ≤ L ∧ L ≤ 3 ∧ Hid (¬ (1 ≤ D ∧ D ≤ l))) ∨ (1 ≤ M ∧ M ≤ 12 ∧ 0 ≤ L ∧ L ≤ 3 ∧ 1 ≤ D ∧ D ≤ l ∧ Hid (¬ (0 ≤ W ∧ W ≤ 6))) ∨
      (1 ≤ M ∧ M ≤ 12 ∧ 0 ≤ L ∧ L ≤ 3 ∧ 1 ≤ D ∧ D ≤ l ∧ 0 ≤ W ∧ W ≤ 6 ∧ Hid (¬ (0 ≤ O ∧ O ≤ 58))) :=
  if c0 : 1 ≤ M ∧ M ≤ 12 then if c1 : 0 ≤ L ∧ L ≤ 3 then if c2 : 1 ≤ D ∧ D ≤ l then if c3 : 0 ≤ W ∧ W ≤ 6 then if c4 : 0 ≤ O ∧ O ≤ 58 then
    absurd ⟨c0.1, c0.2, c1.1, c1.2, c2.1, c2.2, c3.1, c3.2, c4.1, c4.2⟩ h else .inr (.inr (.inr (.inr ⟨c0.1, c0.2, c1.1, c1.2, c2.1, c2.2, c3.1, c3.2, c4⟩)))
    else .inr (.inr (.inr (.inl ⟨c0.1, c0.2, c1.1, c1.2, c2.1, c2.2, c3⟩))) else .inr (.inr (.inl ⟨c0.1, c0.2, c1.1, c1.2, c2⟩)) else .inr (.inl ⟨c0.1, c0.2, c1⟩) else .inl c0

set_option maxHeartbeats 2000000 in
theorem rFace_no (f : Fc) (w : World) (h : ¬ f.ok) :
    Calls Try.prog 41 #[f.val] w fun e w' => e = .returned (.bool false) ∧ Below w.heap.size w w' := by
  have hx := later_cell (w := (w.alloc (.cells f.cells 52)))
  obtain ⟨D, M, L, W, O⟩ := f
  have hc := no_cases5 D M L W O (Cal.dl M (L == 0)) h
  clear h
  rcases hc with c | ⟨_, _, c⟩ | ⟨_, _, _, _, c⟩ | ⟨_, _, _, _, _, _, c⟩ | ⟨_, _, _, _, _, _, _, _, c⟩
  all_goals
    go_enter Try.func41, Try.ntmps41
    go_wp2_with fail
    refine wp_region_later (by kernel_rfl) (by kernel_rfl) ?_
    repeat (go_big_quiet_step (first
      | (go_at_call 68; exact later_same (in_yes _ _ _ _ (by omega) (by omega)))
      | (go_at_call 68; exact later_same (in_no _ _ _ _ c.out))
      | (go_at_call 24; exact later_call (rLength_any _ _ _ (by omega) (by omega)))))
    refine wpQuiet_nil ?_
    rintro w2 ⟨⟨_, hb2⟩, rfl⟩
    clear hx
    go_wp2_with fail
    go_ret
    exact ⟨rfl, ((Below.refl _ _).alloc (Nat.le_refl _) _).trans (hb2.mono (by simp))⟩
end Go.Proofs.Ytjlnkghjiaglmaa
