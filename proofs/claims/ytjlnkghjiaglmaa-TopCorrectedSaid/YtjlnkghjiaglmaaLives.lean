/-
  The contract of lives: it returns true.
  No conditions.
-/
import Derived.Test.YtjlnkghjiaglmaaDates2
import Derived.Test.YtjlnkghjiaglmaaPlay2
namespace Go.Proofs.Ytjlnkghjiaglmaa
open Go.RowKit

theorem ok_2000 : Cal.ok 2000 1 1 := by decide
theorem num_2000 : Cal.num 2000 1 1 = 730119 := by decide
theorem Number_2000 (w : World) : Calls Try.prog 27 #[D3 2000 1 1] w fun e w' => e = .returned (.tuple #[.int .i64 730119, .int .i64 0]) ∧ Below w.heap.size w w' :=
  (Number_yes 2000 1 1 w ok_2000).mono fun _ _ h => by rw [num_2000] at h; exact h
theorem Weekday_2000 (w : World) : Calls Try.prog 28 #[D3 2000 1 1] w fun e w' => e = .returned (.tuple #[.int .i64 6, .int .i64 0]) ∧ Below w.heap.size w w' :=
  (Weekday_yes 2000 1 1 w ok_2000).mono fun _ _ h => by rw [num_2000] at h; exact h

theorem Row2_lives (w : World) : Row2 (w.alloc (.cells #[.int .i64 80, .int .i64 1, .int .i64 160, .int .i64 3] 36)) (some ⟨w.heap.size, 0, none⟩) 2 [(80, 1), (160, 3)] := by
  refine ⟨rfl, fun _ => ⟨_, rfl, by simp, ?_⟩⟩
  intro k t b h
  have hc := (Blk.new w 36 #[.int .i64 80, .int .i64 1, .int .i64 160, .int .i64 3]).cell
  match k, h with
  | 0, h => simp at h; obtain ⟨rfl, rfl⟩ := h; exact ⟨hc 0, hc 1⟩
  | 1, h => simp at h; obtain ⟨rfl, rfl⟩ := h; exact ⟨hc 2, hc 3⟩
  | k + 2, h => simp at h
theorem Play_lives (w w' : World) (hb : Below (w.alloc (.cells #[.int .i64 80, .int .i64 1, .int .i64 160, .int .i64 3] 36)).heap.size (w.alloc (.cells #[.int .i64 80, .int .i64 1, .int .i64 160, .int .i64 3] 36)) w') :
    Calls Try.prog 30 #[.slice (some ⟨w.heap.size, 0, none⟩) 2 2, .int .i64 200] w' fun e w'' => e = .returned (.tuple #[K4 true true 120 80, .int .i64 0]) ∧ Below w'.heap.size w' w'' :=
  (Play_yes (some ⟨w.heap.size, 0, none⟩) 2 2 [(80, 1), (160, 3)] 200 w' ((Row2_lives w).later hb) (by omega) (by decide) (by omega) (by omega)).mono fun _ _ h => h

set_option maxHeartbeats 1000000 in
theorem lives_any (w : World) : Calls Try.prog 23 #[] w fun e w' => e = .returned (.bool true) ∧ Below w.heap.size w w' := by
  go_enter Try.func23, Try.ntmps23
  go_wp2_with (first
    | (go_at_call 27; refine (Number_2000 _).mono ?_; rintro e w1 ⟨rfl, hb1⟩)
    | (go_at_call 28; refine (Weekday_2000 _).mono ?_; rintro e w2 ⟨rfl, hb2⟩; have hz2 := hb2.size)
    | (go_at_call 30; refine (Play_lives w2 _ (Below.refl _ _)).mono ?_; rintro e w3 ⟨rfl, hb3⟩; have hz3 := hb3.size; simp at hz3))
  go_ret
  exact ⟨rfl, (((hb1.trans (hb2.mono hb1.size)).alloc (by have := hb1.size; omega) _).trans (hb3.mono (by have := hb1.size; simp; omega))).alloc (by have := hb1.size; omega) _⟩
end Go.Proofs.Ytjlnkghjiaglmaa
