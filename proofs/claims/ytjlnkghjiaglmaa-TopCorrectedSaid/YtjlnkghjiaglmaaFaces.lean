/-
  Contracts of the functions on faces: last, month, day, midnight of package dial; month of the reference.
  Conditions: the face's month and leap are in their ranges.
-/
import Derived.Test.YtjlnkghjiaglmaaLeaf
import Derived.Test.YtjlnkghjiaglmaaKit2
import Derived.Test.YtjlnkghjiaglmaaFc
namespace Go.Proofs.Ytjlnkghjiaglmaa
open Go.RowKit

/-- A face's cells, and as the machine holds it. -/
abbrev Fc.cells (f : Fc) : Array Value := #[.int .i64 f.D, .int .i64 f.M, .int .i64 f.L, .int .i64 f.W, .int .i64 f.O]
abbrev Fc.val (f : Fc) : Value := .agg #[.int .i64 f.D, .int .i64 f.M, .int .i64 f.L, .int .i64 f.W, .int .i64 f.O]

theorem Blk.new1 (w : World) (o : Obj) (t : TypeId) (cs : Array Value) : Blk ((w.alloc o).alloc (.cells cs t)) (w.heap.size + 1) t cs := by
  have h := Blk.new (w.alloc o) t cs
  rwa [World.size_alloc] at h

set_option maxHeartbeats 400000 in
theorem last_any (f : Fc) (w : World) :
    Calls Try.prog 74 #[f.val] w fun e w' => e = .returned (.int .i64 f.lst) ∧ Below w.heap.size w w' := by
  go_enter Try.func74, Try.ntmps74
  go_wp2_with (go_at_call 60; refine (length_any _ _ _).mono ?_; rintro e w' ⟨rfl, rfl⟩)
  go_ret
  exact ⟨rfl, (Below.refl _ _).alloc (Nat.le_refl _) _⟩

set_option maxHeartbeats 400000 in
theorem month_any (f : Fc) (w : World) (h : f.okM) :
    Calls Try.prog 73 #[f.val] w fun e w' => e = .returned f.mon.val ∧ Below w.heap.size w w' := by
  obtain ⟨D, M, L, W, O⟩ := f
  obtain ⟨h1, h2, h3, h4⟩ := h
  simp only at h1 h2 h3 h4
  by_cases hm : M < 12
  · have e : Fc.mon ⟨D, M, L, W, O⟩ = ⟨D, M + 1, L, W, O⟩ := by unfold Fc.mon; rw [if_pos hm]
    rw [e]
    clear e
    go_enter Try.func73, Try.ntmps73
    go_wp2_with fail
    refine bodyPost_cell (w.heap.size + 1) 52 (Fc.cells ⟨D, M + 1, L, W, O⟩) _ ?_ ?_ ⟨rfl, ?_⟩
    · exact Blk.new1 w _ 52 _
    · intro W' hW'
      simp [results, Try.results73, go_sem, hW']
    · exact ((Below.refl _ _).alloc (Nat.le_refl _) _).alloc (by simp) _
  · have e : Fc.mon ⟨D, M, L, W, O⟩ = ⟨D, 1, (L + 1) % 4, W, O⟩ := by unfold Fc.mon; rw [if_neg hm]
    rw [e]
    clear e
    obtain rfl : M = 12 := by omega
    go_enter Try.func73, Try.ntmps73
    go_wp2_with fail
    refine bodyPost_cell (w.heap.size + 1) 52 (Fc.cells ⟨D, 1, (L + 1) % 4, W, O⟩) _ ?_ ?_ ⟨rfl, ?_⟩
    · exact Blk.new1 w _ 52 _
    · intro W' hW'
      simp [results, Try.results73, go_sem, hW']
    · exact ((Below.refl _ _).alloc (Nat.le_refl _) _).alloc (by simp) _

set_option maxHeartbeats 400000 in
theorem rmonth_any (f : Fc) (w : World) (h : f.okM) :
    Calls Try.prog 75 #[f.val] w fun e w' => e = .returned f.mon.val ∧ Below w.heap.size w w' := by
  obtain ⟨D, M, L, W, O⟩ := f
  obtain ⟨h1, h2, h3, h4⟩ := h
  simp only at h1 h2 h3 h4
  by_cases hm : M < 12
  · have e : Fc.mon ⟨D, M, L, W, O⟩ = ⟨D, M + 1, L, W, O⟩ := by unfold Fc.mon; rw [if_pos hm]
    rw [e]
    clear e
    go_enter Try.func75, Try.ntmps75
    go_wp2_with fail
    refine bodyPost_cell (w.heap.size + 1) 52 (Fc.cells ⟨D, M + 1, L, W, O⟩) _ ?_ ?_ ⟨rfl, ?_⟩
    · exact Blk.new1 w _ 52 _
    · intro W' hW'
      simp [results, Try.results75, go_sem, hW']
    · exact ((Below.refl _ _).alloc (Nat.le_refl _) _).alloc (by simp) _
  · have e : Fc.mon ⟨D, M, L, W, O⟩ = ⟨D, 1, (L + 1) % 4, W, O⟩ := by unfold Fc.mon; rw [if_neg hm]
    rw [e]
    clear e
    obtain rfl : M = 12 := by omega
    go_enter Try.func75, Try.ntmps75
    go_wp2_with fail
    refine bodyPost_cell (w.heap.size + 1) 52 (Fc.cells ⟨D, 1, (L + 1) % 4, W, O⟩) _ ?_ ?_ ⟨rfl, ?_⟩
    · exact Blk.new1 w _ 52 _
    · intro W' hW'
      simp [results, Try.results75, go_sem, hW']
    · exact ((Below.refl _ _).alloc (Nat.le_refl _) _).alloc (by simp) _

theorem below2 (w : World) (o o2 : Obj) : Below w.heap.size w ((w.alloc o).alloc o2) := ((Below.refl _ _).alloc (Nat.le_refl _) _).alloc (by simp) _

set_option maxHeartbeats 1000000 in
theorem day_any (f : Fc) (w : World) (h : f.okM) (hD1 : 1 ≤ f.D) (hD2 : f.D ≤ f.lst) :
    Calls Try.prog 72 #[f.val] w fun e w' => e = .returned f.day.val ∧ Below w.heap.size w w' := by
  have hb := (Fc.lst_bd f).2
  have hl := fun w => Lib.hid (last_any f w)
  have HL := Lib.hid hl
  clear hl
  have hB := (Blk.new w 52 f.cells).alloc (.cells #[.int .i64 0, .int .i64 0, .int .i64 0, .int .i64 0, .int .i64 0] 52)
  have hR := Blk.new1 w (.cells f.cells 52) 52 #[.int .i64 0, .int .i64 0, .int .i64 0, .int .i64 0, .int .i64 0]
  have hx := later_cell (w := (w.alloc (.cells f.cells 52)).alloc (.cells #[.int .i64 0, .int .i64 0, .int .i64 0, .int .i64 0, .int .i64 0] 52))
  have hbw := below2 w (.cells f.cells 52) (.cells #[.int .i64 0, .int .i64 0, .int .i64 0, .int .i64 0, .int .i64 0] 52)
  obtain ⟨l, hl⟩ : ∃ l, l = f.lst := ⟨_, rfl⟩
  rw [← hl] at hD2 HL hb
  by_cases hd : f.D = l
  · have e : f.day = Fc.mon ⟨1, f.M, f.L, f.W, f.O⟩ := by unfold Fc.day; rw [if_pos (by rw [hd, hl])]
    rw [e]
    have hm := fun w => Lib.hid (month_any ⟨1, f.M, f.L, f.W, f.O⟩ w h)
    have HM := Lib.hid hm
    generalize Fc.mon ⟨1, f.M, f.L, f.W, f.O⟩ = g at *
    obtain ⟨D, M, L, W, O⟩ := f
    have heq : (D == l) = true := beq_iff_eq.2 hd
    clear e hm h hl hd
    go_enter Try.func72, Try.ntmps72
    go_wp2_with fail
    refine wp_region_later (by kernel_rfl) (by kernel_rfl) ?_
    repeat (go_big_quiet_step ((go_at_call 74; exact later_call (HL.out _).out)))
    refine wpQuiet_nil ?_
    rintro w2 ⟨⟨_, hb2⟩, rfl⟩
    have hB2 := hB.later hb2
    have hR2 := hR.later hb2
    have hc1 := hB2.cell
    have hf1 := hB2.frozen
    have hz1 := hB2.lt
    have hz2 := hR2.lt
    go_wp2_with fail
    refine (HM.out _).out.mono ?_; rintro e w3 ⟨rfl, hb3⟩
    have hR3 := (hR2.far (p := ⟨w.heap.size, 0, none⟩) (by simp) (.int .i64 1)).later hb3
    have hc3 := hR3.cell
    have hf3 := hR3.frozen
    have hz3 := hR3.lt
    have hs3 := hb3.size
    clear hx
    go_wp2_with fail
    refine bodyPost_cell (w.heap.size + 1) 52 g.cells _ ?_ ?_ ⟨rfl, ?_⟩
    · exact ((((hR3.set_ 0 _).set_ 1 _).set_ 2 _).set_ 3 _).set_ 4 _
    · intro W' hW'
      simp [results, Try.results72, go_sem, hW']
    · have t : Below w.heap.size w w3 := ((hbw.trans (hb2.mono (by simp; omega))).setCell (by simp) _).trans (hb3.mono (by simp [World.setCell]; omega))
      exact ((((t.setCell (by simp) _).setCell (by simp) _).setCell (by simp) _).setCell (by simp) _).setCell (by simp) _
  · have e : f.day = ⟨f.D + 1, f.M, f.L, f.W, f.O⟩ := by unfold Fc.day; rw [if_neg (by rw [← hl]; exact hd)]
    rw [e]
    obtain ⟨D, M, L, W, O⟩ := f
    have heq : (D == l) = false := by simpa using hd
    clear e h hl hd
    go_enter Try.func72, Try.ntmps72
    go_wp2_with fail
    refine wp_region_later (by kernel_rfl) (by kernel_rfl) ?_
    repeat (go_big_quiet_step ((go_at_call 74; exact later_call (HL.out _).out)))
    refine wpQuiet_nil ?_
    rintro w2 ⟨⟨_, hb2⟩, rfl⟩
    have hB2 := hB.later hb2
    have hR2 := hR.later hb2
    have hc1 := hB2.cell
    have hf1 := hB2.frozen
    have hc2 := hR2.cell
    have hf2 := hR2.frozen
    have hz1 := hB2.lt
    have hz2 := hR2.lt
    clear hx
    go_wp2_with fail
    refine bodyPost_cell (w.heap.size + 1) 52 (Fc.cells ⟨D + 1, M, L, W, O⟩) _ ?_ ?_ ⟨rfl, ?_⟩
    · exact (((((hR2.far (p := ⟨w.heap.size, 0, none⟩) (by simp) _).set_ 0 _).set_ 1 _).set_ 2 _).set_ 3 _).set_ 4 _
    · intro W' hW'
      simp [results, Try.results72, go_sem, hW']
    · have t : Below w.heap.size w w2 := hbw.trans (hb2.mono (by simp; omega))
      exact (((((t.setCell (by simp) _).setCell (by simp) _).setCell (by simp) _).setCell (by simp) _).setCell (by simp) _).setCell (by simp) _
end Go.Proofs.Ytjlnkghjiaglmaa
