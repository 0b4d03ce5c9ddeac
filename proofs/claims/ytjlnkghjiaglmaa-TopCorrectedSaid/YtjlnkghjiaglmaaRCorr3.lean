/-
  The contract of the reference's Correct at a valid face: the push of the month.
  Conditions: as said.
-/
import Derived.Test.YtjlnkghjiaglmaaRCorr
namespace Go.Proofs.Ytjlnkghjiaglmaa
open Go.RowKit

set_option maxHeartbeats 1000000 in
theorem rCorrect_month (f : Fc) (w : World) (h : f.ok) :
    Calls Try.prog 54 #[f.val, .int .i64 2] w fun e w' => e = .returned f.pushM.val ∧ Below w.heap.size w w' := by
  have hm := fun w => Lib.hid (rmonth_any f w h.okM)
  have HM := Lib.hid hm
  have hD := Fc.mon_D f
  have hk := Fc.mon_okM h.okM
  clear hm h
  have hB := (Blk.new w 52 f.cells).alloc (.cells Z5 52)
  have hR := Blk.new1 w (.cells f.cells 52) 52 Z5
  have hbw := below2 w (.cells f.cells 52) (.cells Z5 52)
  have hP : f.pushM = ⟨min f.mon.D f.mon.lst, f.mon.M, f.mon.L, f.mon.W, f.mon.O⟩ := by unfold Fc.pushM; rw [hD]
  rw [hP]
  clear hP hD
  have hl := fun w => Lib.hid (rLength_any f.mon.M (f.mon.L == 0) w hk.1 hk.2.1)
  have HL := Lib.hid hl
  clear hl hk
  generalize f.mon = g at *
  obtain ⟨l, hl⟩ : ∃ l, l = g.lst := ⟨_, rfl⟩
  have hl' : Cal.dl g.M (g.L == 0) = l := hl.symm
  rw [← hl]
  rw [hl'] at HL
  clear hl hl'
  obtain ⟨g1, g2, g3, g4, g5⟩ := g
  obtain ⟨z, hz, hz1⟩ : ∃ z, z = min g1 l ∧ ((g1 ≤ l ∧ z = g1) ∨ (l < g1 ∧ z = l)) := ⟨_, rfl, by omega⟩
  rw [show (min (Fc.mk g1 g2 g3 g4 g5).D l) = z from hz.symm]
  clear hz
  simp only at HL
  rcases hz1 with ⟨hc, hz⟩ | ⟨hc, hz⟩
  all_goals
    have HZ := Lib.hid hz
    clear hz
    go_enter Try.func54, Try.ntmps54
    go_wp2_with fail
    refine (HM.out _).out.mono ?_; rintro e w2 ⟨rfl, hb2⟩
    have hB2 := hB.later hb2
    have hR2 := hR.later hb2
    have k2 := hB2.cell
    have kf2 := hB2.frozen
    have l2 := hR2.lt
    have s2 := hb2.size
    go_wp2_with fail
    refine forget2 (F := fun X => Blk X w.heap.size 52 #[.int .i64 g1, .int .i64 g2, .int .i64 g3, .int .i64 g4, .int .i64 g5] ∧ Blk X (w.heap.size + 1) 52 Z5 ∧ Below w.heap.size w X) ?_ ?_
    · refine ⟨((((hB2.set_ 0 _).set_ 1 _).set_ 2 _).set_ 3 _).set_ 4 _, ((((hR2.far (by simp) _).far (by simp) _).far (by simp) _).far (by simp) _).far (by simp) _, ?_⟩
      have t := hbw.trans (hb2.mono (by simp; omega))
      exact ((((t.setCell (by simp) _).setCell (by simp) _).setCell (by simp) _).setCell (by simp) _).setCell (by simp) _
    clear hb2 hB2 hR2 k2 kf2 l2 s2 hB hR hbw
    rintro X ⟨hBX, hRX, hbX⟩
    have hx := later_cell (w := X)
    have c1 := hBX.cell
    have z1 := hBX.lt
    refine wp_region_later_tail 9 (by kernel_rfl) (by kernel_rfl) ?_
    simp only [List.take_succ_cons, List.take_zero, List.drop_succ_cons, List.drop_zero]
    repeat (go_big_quiet_step ((go_at_call 24; exact later_call (HL.out _).out)))
    refine wpQuiet_nil ?_
    rintro w3 ⟨⟨_, hb3⟩, rfl⟩
    have hB3 := hBX.later hb3
    have hR3 := hRX.later hb3
    have k3 := hB3.cell
    have kf3 := hB3.frozen
    have k4 := hR3.cell
    have kf4 := hR3.frozen
    have l3 := hR3.lt
    have hbW := hbX.trans (hb3.mono (by omega))
    clear hx c1
    go_wp2_with fail
  · refine bodyPost_cell (w.heap.size + 1) 52 (Fc.cells ⟨g1, g2, g3, g4, g5⟩) (Fc.val ⟨g1, g2, g3, g4, g5⟩) ?_ ?_ ⟨by rw [HZ.out], ?_⟩
    · exact (((((hR3.far (p := ⟨w.heap.size, 0, none⟩) (by simp) _).set_ 0 _).set_ 1 _).set_ 2 _).set_ 3 _).set_ 4 _
    · intro W' hW'
      simp [results, Try.results54, go_sem, hW']
    · exact (((((hbW.setCell (by simp) _).setCell (by simp) _).setCell (by simp) _).setCell (by simp) _).setCell (by simp) _).setCell (by simp) _
  · refine bodyPost_cell (w.heap.size + 1) 52 (Fc.cells ⟨l, g2, g3, g4, g5⟩) (Fc.val ⟨l, g2, g3, g4, g5⟩) ?_ ?_ ⟨by rw [HZ.out], ?_⟩
    · exact (((((hR3.far (p := ⟨w.heap.size, 0, none⟩) (by simp) _).set_ 0 _).set_ 1 _).set_ 2 _).set_ 3 _).set_ 4 _
    · intro W' hW'
      simp [results, Try.results54, go_sem, hW']
    · exact (((((hbW.setCell (by simp) _).setCell (by simp) _).setCell (by simp) _).setCell (by simp) _).setCell (by simp) _).setCell (by simp) _
end Go.Proofs.Ytjlnkghjiaglmaa
