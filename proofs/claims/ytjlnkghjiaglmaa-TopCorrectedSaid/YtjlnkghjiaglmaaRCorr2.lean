/-
  The contract of the reference's Correct at a valid face: the push of the day.
  Conditions: as said.
-/
import Derived.Test.YtjlnkghjiaglmaaRCorr
namespace Go.Proofs.Ytjlnkghjiaglmaa
open Go.RowKit

set_option maxHeartbeats 1000000 in
theorem rCorrect_day (f : Fc) (w : World) (h : f.ok) :
    Calls Try.prog 54 #[f.val, .int .i64 1] w fun e w' => e = .returned f.day.val ∧ Below w.heap.size w w' := by
  have hm := fun (x : Int) w => Lib.hid (rmonth_any ⟨x, f.M, f.L, f.W, f.O⟩ w h.okM)
  have HM := Lib.hid hm
  obtain ⟨h1, h2, h3, h4, h5, h6, _, _, _, _⟩ := h
  have hb := (Fc.lst_bd f).2
  have hB := (Blk.new w 52 (Fc.cells ⟨f.D + 1, f.M, f.L, f.W, f.O⟩)).alloc (.cells Z5 52)
  have hR := Blk.new1 w (.cells (Fc.cells ⟨f.D + 1, f.M, f.L, f.W, f.O⟩) 52) 52 Z5
  have hx := later_cell (w := (w.alloc (.cells (Fc.cells ⟨f.D + 1, f.M, f.L, f.W, f.O⟩) 52)).alloc (.cells Z5 52))
  have hbw := below2 w (.cells (Fc.cells ⟨f.D + 1, f.M, f.L, f.W, f.O⟩) 52) (.cells Z5 52)
  have hl : f.lst = Cal.dl f.M (f.L == 0) := rfl
  rw [hl] at h6 hb
  clear hm
  by_cases hd : f.D = Cal.dl f.M (f.L == 0)
  · have e : f.day = ⟨1, (Fc.mon ⟨f.D + 1, f.M, f.L, f.W, f.O⟩).M, (Fc.mon ⟨f.D + 1, f.M, f.L, f.W, f.O⟩).L, (Fc.mon ⟨f.D + 1, f.M, f.L, f.W, f.O⟩).W, (Fc.mon ⟨f.D + 1, f.M, f.L, f.W, f.O⟩).O⟩ := by
      unfold Fc.day; rw [if_pos (by rw [hl]; exact hd)]; unfold Fc.mon; by_cases hc : f.M < 12 <;> simp [hc]
    rw [e]
    clear e hl h5 h6
    have hlt : Cal.dl f.M (f.L == 0) < f.D + 1 := by omega
    have hlt2 : f.D < 32 := by omega
    have hlt3 : 27 < f.D := by have := (Cal.dl_bd f.M (f.L == 0)).1; omega
    clear hd
    obtain ⟨D, M, L, W, O⟩ := f
    simp only at h1 h2 h3 h4 hb hlt hlt2 hlt3 HM ⊢
    have HM' := Lib.hid (fun w => Lib.hid ((HM.out (D + 1) w).out))
    clear HM
    obtain ⟨g, hg⟩ : ∃ g, g = Fc.mon ⟨D + 1, M, L, W, O⟩ := ⟨_, rfl⟩
    rw [← hg] at HM' ⊢
    clear hg
    obtain ⟨g1, g2, g3, g4, g5⟩ := g
    go_enter Try.func54, Try.ntmps54
    go_wp2_with fail
    refine wp_region_later (by kernel_rfl) (by kernel_rfl) ?_
    repeat (go_big_quiet_step ((go_at_call 24; exact later_call (rLength_any _ _ _ (by omega) (by omega)))))
    refine wpQuiet_nil ?_
    rintro w2 ⟨⟨_, hb2⟩, rfl⟩
    have hB2 := hB.later hb2
    have hR2 := hR.later hb2
    have k1 := hB2.cell
    have kf1 := hB2.frozen
    have l1 := hB2.lt
    have l2 := hR2.lt
    clear hx
    go_wp2_with fail
    refine (HM'.out _).out.mono ?_; rintro e w3 ⟨rfl, hb3⟩
    have hB3 := hB2.later hb3
    have hR3 := hR2.later hb3
    have hB5 := ((((hB3.set_ 0 (.int .i64 g1)).set_ 1 (.int .i64 g2)).set_ 2 (.int .i64 g3)).set_ 3 (.int .i64 g4)).set_ 4 (.int .i64 g5)
    have hB6 := hB5.set_ 0 (.int .i64 1)
    have hR6 := (((((hR3.far (p := ⟨w.heap.size, 0, none⟩) (by simp) (.int .i64 g1)).far (p := ⟨w.heap.size, 1, none⟩) (by simp) (.int .i64 g2)).far (p := ⟨w.heap.size, 2, none⟩) (by simp) (.int .i64 g3)).far (p := ⟨w.heap.size, 3, none⟩) (by simp) (.int .i64 g4)).far (p := ⟨w.heap.size, 4, none⟩) (by simp) (.int .i64 g5)).far (p := ⟨w.heap.size, 0, none⟩) (by simp) (.int .i64 1)
    have k3 := hB3.cell
    have kf3 := hB3.frozen
    have k5 := hB5.cell
    have kf5 := hB5.frozen
    have k6 := hB6.cell
    have kf6 := hB6.frozen
    have r6 := hR6.cell
    have rf6 := hR6.frozen
    have l3 := hB3.lt
    have l4 := hR3.lt
    clear k1 kf1 l1 l2
    go_wp2_with fail
    refine bodyPost_cell (w.heap.size + 1) 52 (Fc.cells ⟨1, g2, g3, g4, g5⟩) (Fc.val ⟨1, g2, g3, g4, g5⟩) ?_ ?_ ⟨rfl, ?_⟩
    · exact ((((hR6.set_ 0 _).set_ 1 _).set_ 2 _).set_ 3 _).set_ 4 _
    · intro W' hW'
      simp [results, Try.results54, go_sem, hW']
    · have t := (hbw.trans (hb2.mono (by simp; omega))).trans (hb3.mono (by have := hB2.lt; omega))
      exact ((((((((((t.setCell (by simp) _).setCell (by simp) _).setCell (by simp) _).setCell (by simp) _).setCell (by simp) _).setCell (by simp) _).setCell (by simp) _).setCell (by simp) _).setCell (by simp) _).setCell (by simp) _).setCell (by simp) _
  · have e : f.day = ⟨f.D + 1, f.M, f.L, f.W, f.O⟩ := by unfold Fc.day; rw [if_neg (by rw [hl]; exact hd)]
    rw [e]
    have hlt : f.D + 1 ≤ Cal.dl f.M (f.L == 0) := by omega
    obtain ⟨D, M, L, W, O⟩ := f
    simp only at h1 h2 h3 h4 h5 hb hlt
    clear e hl hd h6
    go_enter Try.func54, Try.ntmps54
    go_wp2_with fail
    refine wp_region_later (by kernel_rfl) (by kernel_rfl) ?_
    repeat (go_big_quiet_step ((go_at_call 24; exact later_call (rLength_any _ _ _ (by omega) (by omega)))))
    refine wpQuiet_nil ?_
    rintro w2 ⟨⟨_, hb2⟩, rfl⟩
    have hB2 := hB.later hb2
    have hR2 := hR.later hb2
    have k1 := hB2.cell
    have kf1 := hB2.frozen
    have k2 := hR2.cell
    have kf2 := hR2.frozen
    have l2 := hR2.lt
    clear hx
    go_wp2_with fail
    refine bodyPost_cell (w.heap.size + 1) 52 (Fc.cells ⟨D + 1, M, L, W, O⟩) (Fc.val ⟨D + 1, M, L, W, O⟩) ?_ ?_ ⟨rfl, ?_⟩
    · exact ((((hR2.set_ 0 _).set_ 1 _).set_ 2 _).set_ 3 _).set_ 4 _
    · intro W' hW'
      simp [results, Try.results54, go_sem, hW']
    · have t := hbw.trans (hb2.mono (by simp; omega))
      exact ((((t.setCell (by simp) _).setCell (by simp) _).setCell (by simp) _).setCell (by simp) _).setCell (by simp) _
end Go.Proofs.Ytjlnkghjiaglmaa
