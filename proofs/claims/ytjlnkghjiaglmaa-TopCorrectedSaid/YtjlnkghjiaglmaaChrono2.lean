/-
  Contracts of the chronograph's push: reset and split; all pushes in one.
  Conditions: the numbers are small.
-/
import Derived.Test.YtjlnkghjiaglmaaChrono
namespace Go.Proofs.Ytjlnkghjiaglmaa
open Go.RowKit

theorem only_refl (w : World) (row : Option Nat) : w.grownBy w row := World.grownBy.refl w _

set_option maxHeartbeats 400000 in
theorem push_reset_stands (g : Nat) (h : Bool) (s m p t : Int) (w : World) (hB : Blk w g 85 (C5 false h s m p)) :
    Calls Try.prog 66 #[.pointer (some ⟨g, 0, none⟩), .agg #[.int .i64 t, .int .i64 2]] w fun e w' => e = .returned (.bool false) ∧ Blk w' g 85 (C5 false false t 0 p) ∧ w.grownBy w' (some g) := by
  have hl := hB.lt
  have hB2 := hB.set_ 1 (.bool false)
  have hc := hB.cell
  have hf := hB.frozen
  go_enter Try.func66, Try.ntmps66
  go_wp2_with fail
  go_region
  all_goals
    go_wp2
    go_ret
    refine ⟨rfl, (((hB2.set_ 3 _).set_ 2 _).alloc _).drew, ?_⟩
    refine only_drew ?_
    refine only_alloc ?_ _
    refine only_setCell ?_ (.inl rfl) _
    refine only_setCell ?_ (.inl rfl) _
    refine only_setCell ?_ (.inl rfl) _
    exact only_refl w _

set_option maxHeartbeats 400000 in
theorem push_reset_runs (g : Nat) (h : Bool) (s m p t : Int) (w : World) (hB : Blk w g 85 (C5 true h s m p)) :
    Calls Try.prog 66 #[.pointer (some ⟨g, 0, none⟩), .agg #[.int .i64 t, .int .i64 2]] w fun e w' => e = .returned (.bool false) ∧ Blk w' g 85 (C5 true h t 0 p) ∧ w.grownBy w' (some g) := by
  have hl := hB.lt
  have hc := hB.cell
  have hf := hB.frozen
  go_enter Try.func66, Try.ntmps66
  go_wp2_with fail
  go_region
  all_goals
    go_wp2
    go_ret
    refine ⟨rfl, (((hB.set_ 3 _).set_ 2 _).alloc _).drew, ?_⟩
    refine only_drew ?_
    refine only_alloc ?_ _
    refine only_setCell ?_ (.inl rfl) _
    refine only_setCell ?_ (.inl rfl) _
    exact only_refl w _

set_option maxHeartbeats 400000 in
theorem push_split_held (g : Nat) (r : Bool) (s m p t : Int) (w : World) (hB : Blk w g 85 (C5 r true s m p)) :
    Calls Try.prog 66 #[.pointer (some ⟨g, 0, none⟩), .agg #[.int .i64 t, .int .i64 3]] w fun e w' => e = .returned (.bool false) ∧ Blk w' g 85 (C5 r false s m p) ∧ w.grownBy w' (some g) := by
  have hl := hB.lt
  have hc := hB.cell
  have hf := hB.frozen
  go_enter Try.func66, Try.ntmps66
  go_wp2_with fail
  go_ret
  exact ⟨rfl, (hB.set_ 1 _).alloc _, only_alloc (only_setCell (only_refl w _) (.inl rfl) _) _⟩

set_option maxHeartbeats 400000 in
theorem push_split_runs (g : Nat) (s m p t : Int) (w : World) (hB : Blk w g 85 (C5 true false s m p)) (hs : 0 ≤ s ∧ s ≤ 1000000000) (hm : 0 ≤ m ∧ m ≤ 1000000000) (hn : 0 ≤ t ∧ t ≤ 1000000000) :
    Calls Try.prog 66 #[.pointer (some ⟨g, 0, none⟩), .agg #[.int .i64 t, .int .i64 3]] w fun e w' => e = .returned (.bool true) ∧ Blk w' g 85 (C5 true true s m (m + t - s)) ∧ w.grownBy w' (some g) := by
  have hl := hB.lt
  have hB1 := hB.alloc (.cells #[.int .i64 t, .int .i64 3] 36)
  have hc := hB1.cell
  have hf := hB1.frozen
  have hl1 := hB1.lt
  go_enter Try.func66, Try.ntmps66
  go_wp2_with (go_at_call 67; refine (at_runs g false s m p t _ hB1 (by omega) (by omega) (by omega)).mono ?_; rintro e w2 ⟨rfl, hb2⟩; have hB2 := hB1.later hb2; have hc2 := hB2.cell; have hf2 := hB2.frozen; have hl2 := hB2.lt)
  go_ret
  refine ⟨rfl, (hB2.set_ 1 _).set_ 4 _, ?_⟩
  have hw : w.grownBy w2 (some g) := only_of_below (((Below.refl _ _).alloc (Nat.le_refl _) _).trans (hb2.mono (by simp))) _
  exact only_setCell (only_setCell hw (.inl rfl) _) (.inl rfl) _

set_option maxHeartbeats 400000 in
theorem push_split_stands (g : Nat) (s m p t : Int) (w : World) (hB : Blk w g 85 (C5 false false s m p)) :
    Calls Try.prog 66 #[.pointer (some ⟨g, 0, none⟩), .agg #[.int .i64 t, .int .i64 3]] w fun e w' => e = .returned (.bool false) ∧ Blk w' g 85 (C5 false false s m p) ∧ w.grownBy w' (some g) := by
  have hl := hB.lt
  have hB1 := hB.alloc (.cells #[.int .i64 t, .int .i64 3] 36)
  have hc := hB1.cell
  have hl1 := hB1.lt
  go_enter Try.func66, Try.ntmps66
  go_wp2_with fail
  go_ret
  exact ⟨rfl, hB1, only_of_below ((Below.refl _ _).alloc (Nat.le_refl _) _) _⟩

/-- A chronograph's cells. -/
abbrev Ch.cells (c : Ch) : Array Value := C5 c.r c.h c.s c.m c.p

theorem push_any (g : Nat) (c : Ch) (t b u : Int) (w : World) (hB : Blk w g 85 c.cells) (hf : c.fine u) (hu : u ≤ t) (h0 : 0 ≤ u) (ht : t ≤ 1000000000) (hb1 : 1 ≤ b) (hb3 : b ≤ 3) :
    Calls Try.prog 66 #[.pointer (some ⟨g, 0, none⟩), .agg #[.int .i64 t, .int .i64 b]] w fun e w' => e = .returned (.bool (c.lap b)) ∧ Blk w' g 85 (c.push t b).cells ∧ w.grownBy w' (some g) := by
  obtain ⟨f1, f2, f3, f4, f5⟩ := hf
  obtain ⟨r, h, s, m, p⟩ := c
  have e : b = 1 ∨ b = 2 ∨ b = 3 := by omega
  simp only at f1 f2 f3 f4 f5
  rcases e with rfl | rfl | rfl
  · cases r
    · exact push_start_stands g h s m p t w hB
    · exact push_start_runs g h s m p t w hB (by omega) (by omega) (by omega)
  · cases r
    · cases h <;> exact push_reset_stands g _ s m p t w hB
    · cases h <;> exact push_reset_runs g _ s m p t w hB
  · cases h
    · cases r
      · exact push_split_stands g s m p t w hB
      · exact push_split_runs g s m p t w hB (by omega) (by omega) (by omega)
    · cases r <;> exact push_split_held g _ s m p t w hB
end Go.Proofs.Ytjlnkghjiaglmaa
