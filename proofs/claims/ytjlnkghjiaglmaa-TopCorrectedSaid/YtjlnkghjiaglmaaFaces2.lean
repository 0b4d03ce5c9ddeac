/-
  Contracts of the functions on faces: face, midnight of package dial; Face of the reference.
  Conditions: midnight's face has a valid day, month and leap.
-/
import Derived.Test.YtjlnkghjiaglmaaFaces
namespace Go.Proofs.Ytjlnkghjiaglmaa
open Go.RowKit

set_option maxHeartbeats 1000000 in
theorem face_yes (f : Fc) (w : World) (h : f.ok) :
    Calls Try.prog 69 #[f.val] w fun e w' => e = .returned (.bool true) ∧ Below w.heap.size w w' := by
  have hl := fun w => Lib.hid (last_any f w)
  have HL := Lib.hid hl
  obtain ⟨h1, h2, h3, h4, h5, h6, h7, h8, h9, h10⟩ := h
  have hx := later_cell (w := (w.alloc (.cells f.cells 52)))
  obtain ⟨l, hl⟩ : ∃ l, l = f.lst := ⟨_, rfl⟩
  rw [← hl] at h6 HL
  clear hl
  obtain ⟨D, M, L, W, O⟩ := f
  simp only at h1 h2 h3 h4 h5 h6 h7 h8 h9 h10
  have h4' : L < 4 := by omega
  have h8' : W < 7 := by omega
  have h10' : O < 59 := by omega
  go_enter Try.func69, Try.ntmps69
  go_wp2_with fail
  refine wp_region_later (by kernel_rfl) (by kernel_rfl) ?_
  repeat (go_big_quiet_step ((go_at_call 74; exact later_call (HL.out _).out)))
  refine wpQuiet_nil ?_
  rintro w2 ⟨⟨_, hb2⟩, rfl⟩
  clear hx
  go_wp2_with fail
  go_ret
  exact ⟨rfl, ((Below.refl _ _).alloc (Nat.le_refl _) _).trans (hb2.mono (by simp))⟩

set_option maxHeartbeats 400000 in
theorem midnight_any (f : Fc) (w : World) (h : f.ok) :
    Calls Try.prog 71 #[f.val] w fun e w' => e = .returned f.night.val ∧ Below w.heap.size w w' := by
  have hg := Fc.day_ok h
  have hm := fun w => Lib.hid (day_any f w h.okM h.2.2.2.2.1 h.2.2.2.2.2.1)
  have HM := Lib.hid hm
  have e : f.night = f.day.wday.moon := rfl
  rw [e]
  clear hm e h
  obtain ⟨_, _, _, _, _, _, g7, g8, g9, g10⟩ := hg
  generalize f.day = g at *
  have hB := (Blk.new w 52 f.cells).alloc (.cells #[.int .i64 0, .int .i64 0, .int .i64 0, .int .i64 0, .int .i64 0] 52)
  have hR := Blk.new1 w (.cells f.cells 52) 52 #[.int .i64 0, .int .i64 0, .int .i64 0, .int .i64 0, .int .i64 0]
  have hbw := below2 w (.cells f.cells 52) (.cells #[.int .i64 0, .int .i64 0, .int .i64 0, .int .i64 0, .int .i64 0] 52)
  obtain ⟨D, M, L, W, O⟩ := f
  obtain ⟨D1, M1, L1, W1, O1⟩ := g
  simp only at g7 g8 g9 g10
  go_enter Try.func71, Try.ntmps71
  go_wp2_with fail
  refine (HM.out _).out.mono ?_; rintro e w2 ⟨rfl, hb2⟩
  have hB2 := hB.later hb2
  have hR2 := hR.later hb2
  have hc1 := hB2.cell
  have hf1 := hB2.frozen
  have hc2 := hR2.cell
  have hf2 := hR2.frozen
  have hz1 := hB2.lt
  have hz2 := hR2.lt
  have hB5 := ((((hB2.set_ 0 (.int .i64 D1)).set_ 1 (.int .i64 M1)).set_ 2 (.int .i64 L1)).set_ 3 (.int .i64 W1)).set_ 4 (.int .i64 O1)
  have hB6 := hB5.set_ 3 (.int .i64 ((W1 + 1) % 7))
  have hB7 := hB6.set_ 4 (.int .i64 ((O1 + 1) % 59))
  have kc5 := hB5.cell
  have kf5 := hB5.frozen
  have kc6 := hB6.cell
  have kf6 := hB6.frozen
  have kc7 := hB7.cell
  go_wp2_with fail
  refine bodyPost_cell (w.heap.size + 1) 52 (Fc.cells ⟨D1, M1, L1, (W1 + 1) % 7, (O1 + 1) % 59⟩) (Fc.val ⟨D1, M1, L1, (W1 + 1) % 7, (O1 + 1) % 59⟩) ?_ ?_ ⟨rfl, ?_⟩
  · exact ((((((((((((hR2.far (p := ⟨w.heap.size, 0, none⟩) (by simp) _).far (p := ⟨w.heap.size, 1, none⟩) (by simp) _).far (p := ⟨w.heap.size, 2, none⟩) (by simp) _).far (p := ⟨w.heap.size, 3, none⟩) (by simp) _).far (p := ⟨w.heap.size, 4, none⟩) (by simp) _).far (p := ⟨w.heap.size, 3, none⟩) (by simp) _).far (p := ⟨w.heap.size, 4, none⟩) (by simp) _).set_ 0 _).set_ 1 _).set_ 2 _).set_ 3 _).set_ 4 _)
  · intro W' hW'
    simp [results, Try.results71, go_sem, hW']
  · have t : Below w.heap.size w w2 := hbw.trans (hb2.mono (by simp; omega))
    exact ((((((((((((t.setCell (by simp) _).setCell (by simp) _).setCell (by simp) _).setCell (by simp) _).setCell (by simp) _).setCell (by simp) _).setCell (by simp) _).setCell (by simp) _).setCell (by simp) _).setCell (by simp) _).setCell (by simp) _).setCell (by simp) _)
end Go.Proofs.Ytjlnkghjiaglmaa
