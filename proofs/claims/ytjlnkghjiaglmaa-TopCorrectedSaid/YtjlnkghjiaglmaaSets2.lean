/-
  Contracts of Set of package dial and of the reference.
  Conditions: the dates are valid where it is said.
-/
import Derived.Test.YtjlnkghjiaglmaaSets
namespace Go.Proofs.Ytjlnkghjiaglmaa
open Go.RowKit

set_option maxHeartbeats 1000000 in
theorem rSet_any (y m d o : Int) (w : World) (h : Cal.ok y m d) :
    Calls Try.prog 40 #[D3 y m d, .int .i64 o] w fun e w' => e = .returned (Fc.set y m d o).val ∧ Below w.heap.size w w' := by
  have hN := fun w => Lib.hid (rWeekday_any y m d w h)
  have HN := Lib.hid hN
  have hy := h.1
  clear hN h
  have hR := Blk.new1 w (.cells #[.int .i64 y, .int .i64 m, .int .i64 d] 30) 52 #[.int .i64 0, .int .i64 0, .int .i64 0, .int .i64 0, .int .i64 0]
  have hbw := below2 w (.cells #[.int .i64 y, .int .i64 m, .int .i64 d] 30) (.cells #[.int .i64 0, .int .i64 0, .int .i64 0, .int .i64 0, .int .i64 0] 52)
  have hx := later_cell (w := (w.alloc (.cells #[.int .i64 y, .int .i64 m, .int .i64 d] 30)).alloc (.cells #[.int .i64 0, .int .i64 0, .int .i64 0, .int .i64 0, .int .i64 0] 52))
  unfold Fc.set
  generalize Cal.num y m d = n at *
  go_enter Try.func40, Try.ntmps40
  go_wp2_with fail
  refine wp_region_later_tail 11 (by kernel_rfl) (by kernel_rfl) ?_
  simp only [List.take_succ_cons, List.take_zero, List.drop_succ_cons, List.drop_zero]
  repeat (go_big_quiet_step ((go_at_call 45; exact later_call (HN.out _).out)))
  refine wpQuiet_nil ?_
  rintro w2 ⟨⟨_, hb2⟩, rfl⟩
  have hR2 := hR.later hb2
  have kc := hR2.cell
  have kf := hR2.frozen
  have lz := hR2.lt
  clear hx
  go_wp2_with fail
  refine bodyPost_cell (w.heap.size + 1) 52 (Fc.cells ⟨d, m, y % 4, (n + 1) % 7, o⟩) (Fc.val ⟨d, m, y % 4, (n + 1) % 7, o⟩) ?_ ?_ ⟨rfl, ?_⟩
  · exact ((((hR2.set_ 0 _).set_ 1 _).set_ 2 _).set_ 3 _).set_ 4 _
  · intro W' hW'
    simp [results, Try.results40, go_sem, hW']
  · have t := hbw.trans (hb2.mono (by simp; omega))
    exact ((((t.setCell (by simp) _).setCell (by simp) _).setCell (by simp) _).setCell (by simp) _).setCell (by simp) _

set_option maxHeartbeats 1000000 in
theorem Set_yes (y m d o : Int) (w : World) (h : Cal.ok y m d) (ho1 : 0 ≤ o) (ho2 : o ≤ 58) :
    Calls Try.prog 37 #[D3 y m d, .int .i64 o] w fun e w' => e = .returned (.tuple #[(Fc.set y m d o).val, .int .i64 0]) ∧ Below w.heap.size w w' := by
  have hN := fun w => Lib.hid (number_any y m d w h)
  have HN := Lib.hid hN
  have hV := fun w => Lib.hid (valid_yes y m d w h)
  have HV := Lib.hid hV
  have hn := Cal.num_bd h
  have hy := h.1
  have ho3 : o < 59 := by omega
  clear hN hV h
  have hA := (Blk.new w 30 #[.int .i64 y, .int .i64 m, .int .i64 d]).alloc (.cells #[.int .i64 0, .int .i64 0, .int .i64 0, .int .i64 0, .int .i64 0] 52)
  have hR := Blk.new1 w (.cells #[.int .i64 y, .int .i64 m, .int .i64 d] 30) 52 #[.int .i64 0, .int .i64 0, .int .i64 0, .int .i64 0, .int .i64 0]
  have hbw := below2 w (.cells #[.int .i64 y, .int .i64 m, .int .i64 d] 30) (.cells #[.int .i64 0, .int .i64 0, .int .i64 0, .int .i64 0, .int .i64 0] 52)
  unfold Fc.set
  generalize Cal.num y m d = n at *
  go_enter Try.func37, Try.ntmps37
  go_wp2_with fail
  refine (HV.out _).out.mono ?_; rintro e w1 ⟨rfl, hb1⟩
  have hA1 := hA.later hb1
  have hR1 := hR.later hb1
  have l1 := hR1.lt
  have l0 := hA1.lt
  have c1 := hA1.cell
  have hx := later_cell (w := w1)
  go_wp2_with fail
  refine wp_region_later_tail 12 (by kernel_rfl) (by kernel_rfl) ?_
  simp only [List.take_succ_cons, List.take_zero, List.drop_succ_cons, List.drop_zero]
  repeat (go_big_quiet_step (first
      | (go_at_call 63; exact later_call (HN.out _).out)
      | (go_at_call 64; exact later_same (weekday_any _ _ (by omega) (by omega)))))
  refine wpQuiet_nil ?_
  rintro w2 ⟨⟨_, hb2⟩, rfl⟩
  have hR2 := hR1.later hb2
  have kc := hR2.cell
  have kf := hR2.frozen
  have lz := hR2.lt
  clear hx c1
  go_wp2_with fail
  refine bodyPost_cell (w.heap.size + 1) 52 (Fc.cells ⟨d, m, y % 4, (n + 1) % 7, o⟩) (.tuple #[Fc.val ⟨d, m, y % 4, (n + 1) % 7, o⟩, .int .i64 0]) ?_ ?_ ⟨rfl, ?_⟩
  · exact ((((hR2.set_ 0 _).set_ 1 _).set_ 2 _).set_ 3 _).set_ 4 _
  · intro W' hW'
    simp [results, Try.results37, go_sem, hW']
  · have t := (hbw.trans (hb1.mono (by simp; omega))).trans (hb2.mono (by omega))
    exact ((((t.setCell (by simp) _).setCell (by simp) _).setCell (by simp) _).setCell (by simp) _).setCell (by simp) _

set_option maxHeartbeats 1000000 in
theorem Set_no (y m d o : Int) (w : World) (h : ¬ (Cal.ok y m d ∧ 0 ≤ o ∧ o ≤ 58)) :
    Calls Try.prog 37 #[D3 y m d, .int .i64 o] w fun e w' => e = .returned (.tuple #[.agg #[.int .i64 0, .int .i64 0, .int .i64 0, .int .i64 0, .int .i64 0], .int .i64 1]) ∧ Below w.heap.size w w' := by
  have hR := Blk.new1 w (.cells #[.int .i64 y, .int .i64 m, .int .i64 d] 30) 52 #[.int .i64 0, .int .i64 0, .int .i64 0, .int .i64 0, .int .i64 0]
  have hbw := below2 w (.cells #[.int .i64 y, .int .i64 m, .int .i64 d] 30) (.cells #[.int .i64 0, .int .i64 0, .int .i64 0, .int .i64 0, .int .i64 0] 52)
  by_cases hd : Cal.ok y m d
  · have ho : o < 0 ∨ (0 ≤ o ∧ 59 ≤ o) := by
      by_cases h0 : 0 ≤ o
      · right; exact ⟨h0, by have : ¬ o ≤ 58 := fun h1 => h ⟨hd, h0, h1⟩; omega⟩
      · left; omega
    have hV := fun w => Lib.hid (valid_yes y m d w hd)
    have HV := Lib.hid hV
    clear hV hd h
    rcases ho with h0 | ⟨h0, h1⟩
    all_goals
      go_enter Try.func37, Try.ntmps37
      go_wp2_with fail
      refine (HV.out _).out.mono ?_; rintro e w1 ⟨rfl, hb1⟩
      have hR1 := hR.later hb1
      have l1 := hR1.lt
      have c1 := hR1.cell
      have kf := hR1.frozen
      go_wp2_with fail
      refine bodyPost_cell (w.heap.size + 1) 52 #[.int .i64 0, .int .i64 0, .int .i64 0, .int .i64 0, .int .i64 0] (.tuple #[.agg #[.int .i64 0, .int .i64 0, .int .i64 0, .int .i64 0, .int .i64 0], .int .i64 1]) ?_ ?_ ⟨rfl, ?_⟩
      · exact ((((hR1.set_ 0 _).set_ 1 _).set_ 2 _).set_ 3 _).set_ 4 _
      · intro W' hW'
        simp [results, Try.results37, go_sem, hW']
      · have t := hbw.trans (hb1.mono (by simp; omega))
        exact ((((t.setCell (by simp) _).setCell (by simp) _).setCell (by simp) _).setCell (by simp) _).setCell (by simp) _
  · have hV := fun w => Lib.hid (valid_no y m d w hd)
    have HV := Lib.hid hV
    clear hV hd h
    go_enter Try.func37, Try.ntmps37
    go_wp2_with fail
    refine (HV.out _).out.mono ?_; rintro e w1 ⟨rfl, hb1⟩
    have hR1 := hR.later hb1
    have l1 := hR1.lt
    have c1 := hR1.cell
    have kf := hR1.frozen
    go_wp2_with fail
    refine bodyPost_cell (w.heap.size + 1) 52 #[.int .i64 0, .int .i64 0, .int .i64 0, .int .i64 0, .int .i64 0] (.tuple #[.agg #[.int .i64 0, .int .i64 0, .int .i64 0, .int .i64 0, .int .i64 0], .int .i64 1]) ?_ ?_ ⟨rfl, ?_⟩
    · exact ((((hR1.set_ 0 _).set_ 1 _).set_ 2 _).set_ 3 _).set_ 4 _
    · intro W' hW'
      simp [results, Try.results37, go_sem, hW']
    · have t := hbw.trans (hb1.mono (by simp; omega))
      exact ((((t.setCell (by simp) _).setCell (by simp) _).setCell (by simp) _).setCell (by simp) _).setCell (by simp) _
end Go.Proofs.Ytjlnkghjiaglmaa
