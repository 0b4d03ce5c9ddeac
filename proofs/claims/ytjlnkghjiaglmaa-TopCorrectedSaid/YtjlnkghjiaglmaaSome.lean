/-
  Contracts of some and of the reference's Next.
  Conditions: the date is valid.
-/
import Derived.Test.YtjlnkghjiaglmaaDates4
namespace Go.Proofs.Ytjlnkghjiaglmaa
open Go.RowKit

set_option maxHeartbeats 400000 in
theorem some_any (n y m d : Int) (w : World) (h : Cal.ok y m d) (hn : Cal.num y m d = n % 3651694) :
    Calls Try.prog 26 #[.int .i64 n] w fun e w' => e = .returned (D3 y m d) ∧ Below w.heap.size w w' := by
  have H := Lib.hid h
  clear h
  have HN := Lib.hid hn
  clear hn
  go_enter Try.func26, Try.ntmps26
  go_wp2_with (first
    | (go_at_call 48; refine (fold_any _ _ _ (by omega) (by omega)).mono ?_; rintro e w' ⟨rfl, rfl⟩; rw [← HN.out])
    | (go_at_call 46; refine (rDate_yes _ _ _ _ H.out).mono ?_; rintro e w1 ⟨rfl, hb1⟩; have hR := (Blk.new w 30 #[.int .i64 0, .int .i64 0, .int .i64 0]).later hb1; have hz := hR.lt; have hc := hR.cell; have hf := hR.frozen))
  refine bodyPost_cell w.heap.size 30 #[.int .i64 y, .int .i64 m, .int .i64 d] (D3 y m d) ?_ ?_ ⟨rfl, ?_⟩
  · exact (((hR.set_ 0 _).set_ 1 _).set_ 2 _).alloc _
  · intro W' hW'
    simp [results, Try.results26, go_sem, hW']
  · exact (((((((Below.refl _ _).alloc (Nat.le_refl _) _).trans (hb1.mono (by simp))).setCell (by simp) _).setCell (by simp) _).setCell (by simp) _)).alloc (by simp; omega) _

/-- The day after a date. -/
def nextOf (y m d : Int) : Int × Int × Int := if d < Cal.dl m (Cal.lp y) then (y, m, d + 1) else if m < 12 then (y, m + 1, 1) else (y + 1, 1, 1)

set_option maxHeartbeats 1000000 in
theorem Next_any (y m d y' m' d' : Int) (w : World) (h : Cal.ok y m d) (hn : nextOf y m d = (y', m', d')) (hy : y' ≤ 9999) :
    Calls Try.prog 47 #[D3 y m d] w fun e w' => e = .returned (.tuple #[D3 y' m' d', .bool true]) ∧ Below w.heap.size w w' := by
  obtain ⟨h1, h2, h3, h4, h5, h6⟩ := h
  have h7 := (Cal.dl_bd m (Cal.lp y)).2
  have hB := (Blk.new w 30 #[.int .i64 y, .int .i64 m, .int .i64 (d + 1)]).alloc (.cells #[.int .i64 0, .int .i64 0, .int .i64 0] 30)
  have hR := Blk.new (w.alloc (.cells #[.int .i64 y, .int .i64 m, .int .i64 (d + 1)] 30)) 30 #[.int .i64 0, .int .i64 0, .int .i64 0]
  simp only [World.size_alloc] at hR
  have hx := later_cell (w := (w.alloc (.cells #[.int .i64 y, .int .i64 m, .int .i64 (d + 1)] 30)).alloc (.cells #[.int .i64 0, .int .i64 0, .int .i64 0] 30))
  have hcase : (d < Cal.dl m (Cal.lp y) ∧ y = y' ∧ m = m' ∧ d + 1 = d') ∨ (Cal.dl m (Cal.lp y) < d + 1 ∧ m < 12 ∧ y = y' ∧ m + 1 = m' ∧ 1 = d') ∨ (Cal.dl m (Cal.lp y) < d + 1 ∧ m = 12 ∧ y + 1 = y' ∧ 1 = m' ∧ 1 = d') := by
    unfold nextOf at hn
    by_cases hlt : d < Cal.dl m (Cal.lp y)
    · rw [if_pos hlt] at hn; left; simpa [hlt] using hn
    · rw [if_neg hlt] at hn
      by_cases hm : m < 12
      · rw [if_pos hm] at hn; right; left; exact ⟨by omega, hm, by simpa using hn⟩
      · rw [if_neg hm] at hn; right; right; exact ⟨by omega, by omega, by simpa using hn⟩
  clear hn
  rcases hcase with ⟨hlt, rfl, rfl, rfl⟩ | ⟨hlt, hm, rfl, rfl, rfl⟩ | ⟨hlt, rfl, rfl, rfl, rfl⟩
  · go_enter Try.func47, Try.ntmps47
    go_wp2_with fail
    refine wp_region_later (by kernel_rfl) (by kernel_rfl) ?_
    repeat (go_big_quiet_step (first
      | (go_at_call 25; exact later_same (Leap_any _ _ (by omega)))
      | (go_at_call 24; exact later_call (rLength_any _ _ _ (by omega) (by omega)))))
    refine wpQuiet_nil ?_
    rintro w2 ⟨⟨_, hb2⟩, rfl⟩
    have hB2 := hB.later hb2
    have hR2 := hR.later hb2
    have hz1 := hB2.lt
    have hz2 := hR2.lt
    have hc1 := hB2.cell
    have hf1 := hB2.frozen
    have hc2 := hR2.cell
    have hf2 := hR2.frozen
    have hBW : Below w.heap.size w w2 := (((Below.refl _ _).alloc (Nat.le_refl _) _).alloc (by simp) _).trans (hb2.mono (by simp; omega))
    clear hx
    go_wp2_with fail
    go_region
    go_wp2
    refine bodyPost_cell (w.heap.size + 1) 30 #[.int .i64 y, .int .i64 m, .int .i64 (d + 1)] (.tuple #[D3 y m (d + 1), .bool true]) ?_ ?_ ⟨rfl, ?_⟩
    · exact (((hR2.set_ 0 _).set_ 1 _).set_ 2 _).drew
    · intro W' hW'
      simp [results, Try.results47, go_sem, hW']
    · exact ((((hBW.setCell (by simp) _).setCell (by simp) _).setCell (by simp) _)).drew
  · go_enter Try.func47, Try.ntmps47
    go_wp2_with fail
    refine wp_region_later (by kernel_rfl) (by kernel_rfl) ?_
    repeat (go_big_quiet_step (first
      | (go_at_call 25; exact later_same (Leap_any _ _ (by omega)))
      | (go_at_call 24; exact later_call (rLength_any _ _ _ (by omega) (by omega)))))
    refine wpQuiet_nil ?_
    rintro w2 ⟨⟨_, hb2⟩, rfl⟩
    have hB2 := hB.later hb2
    have hR2 := hR.later hb2
    have hz1 := hB2.lt
    have hz2 := hR2.lt
    have hc1 := hB2.cell
    have hf1 := hB2.frozen
    have hc2 := hR2.cell
    have hf2 := hR2.frozen
    have hBW : Below w.heap.size w w2 := (((Below.refl _ _).alloc (Nat.le_refl _) _).alloc (by simp) _).trans (hb2.mono (by simp; omega))
    clear hx
    go_wp2_with fail
    go_region
    go_wp2
    refine bodyPost_cell (w.heap.size + 1) 30 #[.int .i64 y, .int .i64 (m + 1), .int .i64 1] (.tuple #[D3 y (m + 1) 1, .bool true]) ?_ ?_ ⟨rfl, ?_⟩
    · exact (((((hR2.far (p := ⟨w.heap.size, 2, none⟩) (by simp) _).far (p := ⟨w.heap.size, 1, none⟩) (by simp) _).set_ 0 _).set_ 1 _).set_ 2 _).drew
    · intro W' hW'
      simp [results, Try.results47, go_sem, hW']
    · exact ((((((hBW.setCell (by simp) _).setCell (by simp) _).setCell (by simp) _).setCell (by simp) _).setCell (by simp) _)).drew
  · go_enter Try.func47, Try.ntmps47
    go_wp2_with fail
    refine wp_region_later (by kernel_rfl) (by kernel_rfl) ?_
    repeat (go_big_quiet_step (first
      | (go_at_call 25; exact later_same (Leap_any _ _ (by omega)))
      | (go_at_call 24; exact later_call (rLength_any _ _ _ (by omega) (by omega)))))
    refine wpQuiet_nil ?_
    rintro w2 ⟨⟨_, hb2⟩, rfl⟩
    have hB2 := hB.later hb2
    have hR2 := hR.later hb2
    have hz1 := hB2.lt
    have hz2 := hR2.lt
    have hc1 := hB2.cell
    have hf1 := hB2.frozen
    have hc2 := hR2.cell
    have hf2 := hR2.frozen
    have hBW : Below w.heap.size w w2 := (((Below.refl _ _).alloc (Nat.le_refl _) _).alloc (by simp) _).trans (hb2.mono (by simp; omega))
    clear hx
    have hB5 := (hB2.set_ 2 (.int .i64 1)).set_ 1 (.int .i64 13)
    have hB6 := hB5.set_ 1 (.int .i64 1)
    have hB7 := hB6.set_ 0 (.int .i64 (y + 1))
    have hc5 := hB5.cell
    have hf5 := hB5.frozen
    have hc6 := hB6.cell
    have hf6 := hB6.frozen
    have hc7 := hB7.cell
    go_wp2_with fail
    go_region
    go_wp2
    refine bodyPost_cell (w.heap.size + 1) 30 #[.int .i64 (y + 1), .int .i64 1, .int .i64 1] (.tuple #[D3 (y + 1) 1 1, .bool true]) ?_ ?_ ⟨rfl, ?_⟩
    · exact (((((((hR2.far (p := ⟨w.heap.size, 2, none⟩) (by simp) _).far (p := ⟨w.heap.size, 1, none⟩) (by simp) _).far (p := ⟨w.heap.size, 1, none⟩) (by simp) _).far (p := ⟨w.heap.size, 0, none⟩) (by simp) _).set_ 0 _).set_ 1 _).set_ 2 _).drew
    · intro W' hW'
      simp [results, Try.results47, go_sem, hW']
    · exact ((((((((hBW.setCell (by simp) _).setCell (by simp) _).setCell (by simp) _).setCell (by simp) _).setCell (by simp) _).setCell (by simp) _).setCell (by simp) _)).drew
end Go.Proofs.Ytjlnkghjiaglmaa
