/-
  Contracts of Set, shows and Shows of package dial, of Set and Shows of the reference.
  Conditions: the dates are valid where it is said.
-/
import Derived.Test.YtjlnkghjiaglmaaFaceNo
import Derived.Test.YtjlnkghjiaglmaaFaces2
import Derived.Test.YtjlnkghjiaglmaaDates2
namespace Go.Proofs.Ytjlnkghjiaglmaa
open Go.RowKit

/-- The face of a date. -/
abbrev Fc.set (y m d o : Int) : Fc := ⟨d, m, y % 4, (Cal.num y m d + 1) % 7, o⟩
/-- Does a face show a date? -/
def Fc.showsB (f : Fc) (y m d : Int) : Bool := decide (f.D = d ∧ f.M = m ∧ f.W = (Cal.num y m d + 1) % 7)
theorem Fc.shows_cases (f : Fc) (y m d : Int) : ((f.D == d) = false ∧ Hid (f.showsB y m d = false)) ∨ ((f.D == d) = true ∧ (f.M == m) = false ∧ Hid (f.showsB y m d = false)) ∨
    ((f.D == d) = true ∧ (f.M == m) = true ∧ Hid (f.showsB y m d = (f.W == (Cal.num y m d + 1) % 7))) := by
  by_cases h1 : f.D = d
  · by_cases h2 : f.M = m
    · right; right
      refine ⟨by simpa using h1, by simpa using h2, ?_⟩
      show _ = _
      unfold Fc.showsB
      rw [Bool.eq_iff_iff]
      simp [h1, h2]
    · right; left
      refine ⟨by simpa using h1, by simpa using h2, ?_⟩
      show _ = _
      unfold Fc.showsB
      simp [h2]
  · left
    refine ⟨by simpa using h1, ?_⟩
    show _ = _
    unfold Fc.showsB
    simp [h1]

set_option maxHeartbeats 1000000 in
theorem shows_any (f : Fc) (y m d : Int) (w : World) (h : Cal.ok y m d) :
    Calls Try.prog 70 #[f.val, D3 y m d] w fun e w' => e = .returned (.bool (f.showsB y m d)) ∧ Below w.heap.size w w' := by
  have hn := Cal.num_bd h
  have hN := fun w => Lib.hid (number_any y m d w h)
  have HN := Lib.hid hN
  have hc := Fc.shows_cases f y m d
  clear hN h
  have hx := later_cell (w := (w.alloc (.cells f.cells 52)).alloc (.cells #[.int .i64 y, .int .i64 m, .int .i64 d] 30))
  generalize Cal.num y m d = n at *
  rcases hc with ⟨b1, HS⟩ | ⟨b1, b2, HS⟩ | ⟨b1, b2, HS⟩
  all_goals
    go_enter Try.func70, Try.ntmps70
    go_wp2_with fail
    refine wp_region_later (by kernel_rfl) (by kernel_rfl) ?_
    repeat (go_big_quiet_step (first
      | (go_at_call 63; exact later_call (HN.out _).out)
      | (go_at_call 64; exact later_same (weekday_any _ _ (by omega) (by omega)))))
    refine wpQuiet_nil ?_
    rintro w2 ⟨⟨_, hb2⟩, rfl⟩
    clear hx
    go_wp2_with fail
    go_ret
    exact ⟨by rw [HS.out]; rfl, (below2 w _ _).trans (hb2.mono (by simp; omega))⟩

set_option maxHeartbeats 1000000 in
theorem rShows_any (f : Fc) (y m d : Int) (w : World) (h : Cal.ok y m d) :
    Calls Try.prog 42 #[f.val, D3 y m d] w fun e w' => e = .returned (.bool (f.showsB y m d)) ∧ Below w.heap.size w w' := by
  have hN := fun w => Lib.hid (rWeekday_any y m d w h)
  have HN := Lib.hid hN
  have hc := Fc.shows_cases f y m d
  clear hN h
  have hx := later_cell (w := (w.alloc (.cells f.cells 52)).alloc (.cells #[.int .i64 y, .int .i64 m, .int .i64 d] 30))
  generalize Cal.num y m d = n at *
  rcases hc with ⟨b1, HS⟩ | ⟨b1, b2, HS⟩ | ⟨b1, b2, HS⟩
  all_goals
    go_enter Try.func42, Try.ntmps42
    go_wp2_with fail
    refine wp_region_later (by kernel_rfl) (by kernel_rfl) ?_
    repeat (go_big_quiet_step ((go_at_call 45; exact later_call (HN.out _).out)))
    refine wpQuiet_nil ?_
    rintro w2 ⟨⟨_, hb2⟩, rfl⟩
    clear hx
    go_wp2_with fail
    go_ret
    exact ⟨by rw [HS.out]; rfl, (below2 w _ _).trans (hb2.mono (by simp; omega))⟩

set_option maxHeartbeats 1000000 in
theorem Shows_yes (f : Fc) (y m d : Int) (w : World) (hf : f.ok) (h : Cal.ok y m d) :
    Calls Try.prog 38 #[f.val, D3 y m d] w fun e w' => e = .returned (.tuple #[.bool (f.showsB y m d), .int .i64 0]) ∧ Below w.heap.size w w' := by
  have h1 := fun w => Lib.hid (face_yes f w hf)
  have h2 := fun w => Lib.hid (valid_yes y m d w h)
  have h3 := fun w => Lib.hid (shows_any f y m d w h)
  have H1 := Lib.hid h1
  have H2 := Lib.hid h2
  have H3 := Lib.hid h3
  clear h1 h2 h3 hf h
  have hA := (Blk.new w 52 f.cells).alloc (.cells #[.int .i64 y, .int .i64 m, .int .i64 d] 30)
  have hB := Blk.new1 w (.cells f.cells 52) 30 #[.int .i64 y, .int .i64 m, .int .i64 d]
  have hbw := below2 w (.cells f.cells 52) (.cells #[.int .i64 y, .int .i64 m, .int .i64 d] 30)
  go_enter Try.func38, Try.ntmps38
  go_wp2_with fail
  refine (H1.out _).out.mono ?_; rintro e w1 ⟨rfl, hb1⟩
  have hA1 := hA.later hb1
  have hB1 := hB.later hb1
  have k1 := hB1.cell
  have l1 := hB1.lt
  go_wp2_with fail
  refine (H2.out _).out.mono ?_; rintro e w2 ⟨rfl, hb2⟩
  have hA2 := hA1.later hb2
  have hB2 := hB1.later hb2
  have k2 := hA2.cell
  have k3 := hB2.cell
  have s2 := hb2.size
  clear k1
  go_wp2_with fail
  refine (H3.out _).out.mono ?_; rintro e w3 ⟨rfl, hb3⟩
  go_wp2_with fail
  go_ret2
  exact ⟨rfl, ((hbw.trans (hb1.mono (by simp; omega))).trans (hb2.mono (by omega))).trans (hb3.mono (by omega))⟩

set_option maxHeartbeats 1000000 in
theorem Shows_no (f : Fc) (y m d : Int) (w : World) (h : ¬ (f.ok ∧ Cal.ok y m d)) :
    Calls Try.prog 38 #[f.val, D3 y m d] w fun e w' => e = .returned (.tuple #[.bool false, .int .i64 1]) ∧ Below w.heap.size w w' := by
  have hA := (Blk.new w 52 f.cells).alloc (.cells #[.int .i64 y, .int .i64 m, .int .i64 d] 30)
  have hB := Blk.new1 w (.cells f.cells 52) 30 #[.int .i64 y, .int .i64 m, .int .i64 d]
  have hbw := below2 w (.cells f.cells 52) (.cells #[.int .i64 y, .int .i64 m, .int .i64 d] 30)
  by_cases hf : f.ok
  · have hd : ¬ Cal.ok y m d := fun hd => h ⟨hf, hd⟩
    have h1 := fun w => Lib.hid (face_yes f w hf)
    have h2 := fun w => Lib.hid (valid_no y m d w hd)
    have H1 := Lib.hid h1
    have H2 := Lib.hid h2
    clear h1 h2 hf h hd
    go_enter Try.func38, Try.ntmps38
    go_wp2_with fail
    refine (H1.out _).out.mono ?_; rintro e w1 ⟨rfl, hb1⟩
    have hB1 := hB.later hb1
    have k1 := hB1.cell
    have l1 := hB1.lt
    go_wp2_with fail
    refine (H2.out _).out.mono ?_; rintro e w2 ⟨rfl, hb2⟩
    go_wp2_with fail
    go_ret2
    exact ⟨rfl, (hbw.trans (hb1.mono (by simp; omega))).trans (hb2.mono (by omega))⟩
  · have h1 := fun w => Lib.hid (face_no f w hf)
    have H1 := Lib.hid h1
    clear h1 hf h
    go_enter Try.func38, Try.ntmps38
    go_wp2_with fail
    refine (H1.out _).out.mono ?_; rintro e w1 ⟨rfl, hb1⟩
    go_wp2_with fail
    go_ret2
    exact ⟨rfl, hbw.trans (hb1.mono (by simp; omega))⟩
end Go.Proofs.Ytjlnkghjiaglmaa
