/-
  What every program must return: two jobs by Smith, two by Johnson.
  No conditions.
-/
import Derived.Test.YtnfcigbiebbjdaaSmith
namespace Go.Proofs.Ytnfcigbiebbjdaa
open Go.RowKit

set_option maxHeartbeats 400000 in
theorem same_true (A B : Option Addr) (n c d : Nat) (l : List Int) (w : World) (ha : RowH w A n l) (hb : RowH w B n l) (hn : n ≤ 1000) :
    Calls Try.prog 30 #[.slice A n c, .slice B n d] w fun e w' => e = .returned (.bool true) ∧ Below w.heap.size w w' := by
  go_enter Try.func30, Try.ntmps30
  go_wp2_with fail
  go_loopw [5] (fun i wr => ∃ k : Nat, k ≤ n ∧ i = .int .i64 k ∧ Below w.heap.size w wr) (fun i _ => n - (intOf i).toNat)
  case atStart => exact ⟨0, by omega, rfl, Below.refl _ _⟩
  case round =>
    obtain ⟨k, hk, rfl, hbr⟩ := hrel
    by_cases hlt : k < n
    · obtain ⟨g, rfl, hg, hc⟩ := (ha.later hbr).at_ hlt
      obtain ⟨g2, rfl, hg2, hc2⟩ := (hb.later hbr).at_ hlt
      have hx := later_cell (w := wr)
      go_wp2_with fail
      refine wp_region_later (by kernel_rfl) (by kernel_rfl) ?_
      repeat (go_big_quiet_step (fail))
      refine wpQuiet_nil ?_
      rintro w2 ⟨⟨_, hb2⟩, rfl⟩
      clear hx hc hc2
      go_wp2_with fail
      go_roundw
      case rel => exact ⟨k + 1, by omega, by go_num, hbr.trans (hb2.mono hbr.size)⟩
      case measure => simp [intOf]; omega
    · have hkn : k = n := by omega
      clear hk
      subst hkn
      go_wp2_with fail
      go_ret
      exact ⟨rfl, hbr⟩

theorem perm_two {o : List Int} (h : o.Perm (nums 2)) : o = [0, 1] ∨ o = [1, 0] := by
  have hl := h.length_eq
  have hd := (isOrd_of_perm h).2
  match o, hl, hd with
  | [a, b], _, ⟨h1, h2⟩ =>
    have ha := h2 a (by simp)
    have hb := h2 b (by simp)
    have hne : a ≠ b := fun e => by subst e; simp at h1
    have : (a = 0 ∧ b = 1) ∨ (a = 1 ∧ b = 0) := by omega
    rcases this with ⟨rfl, rfl⟩ | ⟨rfl, rfl⟩
    · exact .inl rfl
    · exact .inr rfl
def LJ : List Jb := [⟨3, 0, 0, 1, []⟩, ⟨1, 0, 0, 1, []⟩]
theorem lives_smith {o : List Int} (h : o.Perm (nums 2)) (hs : o.Pairwise (leOf (smithC LJ))) : o = [1, 0] := by
  rcases perm_two h with rfl | rfl
  · exfalso
    have := (List.pairwise_cons.1 hs).1 1 (by simp)
    exact this.1 (by decide)
  · rfl
theorem lives_john {o : List Int} (h : o.Perm (nums 2)) (hs : o.Pairwise (leOf (johnC [3, 1] [2, 4]))) : o = [1, 0] := by
  rcases perm_two h with rfl | rfl
  · exfalso
    have := (List.pairwise_cons.1 hs).1 1 (by simp)
    exact this.1 (by decide)
  · rfl
theorem small_lit {l : List Int} (h : ∀ x ∈ l, 0 ≤ x ∧ x ≤ 10000) : Small l := fun i => by
  unfold iat
  rw [List.getD_eq_getElem?_getD]
  cases hx : l[i.toNat]? with
  | none => exact ⟨Int.le_refl _, by decide⟩
  | some x => exact h x (List.mem_of_getElem? hx)
theorem jobs_lit (w : World) : JobsH (w.alloc (.cells #[.int .i64 3, .int .i64 0, .int .i64 0, .int .i64 1, .slice none 0 0, .int .i64 1, .int .i64 0, .int .i64 0, .int .i64 1, .slice none 0 0] 43)) (some ⟨w.heap.size, 0, none⟩) 2 LJ := by
  have h := (Blk.new w 43 #[.int .i64 3, .int .i64 0, .int .i64 0, .int .i64 1, .slice none 0 0, .int .i64 1, .int .i64 0, .int .i64 0, .int .i64 1, .slice none 0 0])
  refine ⟨rfl, fun _ => ⟨_, rfl, h.lt, fun k j hk => ?_⟩⟩
  match k, hk with
  | 0, hk =>
    obtain rfl : (⟨3, 0, 0, 1, []⟩ : Jb) = j := by simpa [LJ] using hk
    exact ⟨h.cell 0, h.cell 1, h.cell 2, h.cell 3, none, 0, 0, h.cell 4, RowH.nil _ _⟩
  | 1, hk =>
    obtain rfl : (⟨1, 0, 0, 1, []⟩ : Jb) = j := by simpa [LJ] using hk
    exact ⟨h.cell 5, h.cell 6, h.cell 7, h.cell 8, none, 0, 0, h.cell 9, RowH.nil _ _⟩
  | k + 2, hk => simp [LJ] at hk
theorem row_lit (w : World) (l : List Int) (n : Nat) (hn : l.length = n) : RowH (w.alloc (.cells (rowc l) 3)) (some ⟨w.heap.size, 0, none⟩) n l := RowH.of_row (R := w.heap.size) (l := l) (Blk.new w 3 (rowc l)) hn

set_option maxHeartbeats 2000000 in
theorem lives_any (w : World) : Calls Try.prog 18 #[] w fun e w' => e = .returned (.bool true) ∧ Below w.heap.size w w' := by
  have hb0 : Below w.heap.size w (w.alloc (.cells #[.int .i64 3, .int .i64 0, .int .i64 0, .int .i64 1, .slice none 0 0, .int .i64 1, .int .i64 0, .int .i64 0, .int .i64 1, .slice none 0 0] 43)) := (Below.refl _ _).alloc (Nat.le_refl _) _
  have M1 := Lib.hid (Smith_yes (some ⟨w.heap.size, 0, none⟩) 2 2 LJ _ (jobs_lit w) (by decide))
  go_enter Try.func18, Try.ntmps18
  go_wp2_with fail
  refine M1.out.mono ?_
  rintro e w1 ⟨R, o, rfl, hP, hS, hR, hb1⟩
  obtain rfl := lives_smith hP hS
  have e5 : wsum LJ 0 [1, 0] = 5 := by decide
  rw [e5]
  have hw1 := hb0.trans (hb1.mono (by simp))
  clear M1 hP hS e5 hb1 hb0
  have hz := hw1.size
  have hb2 : Below w.heap.size w ((w1.alloc (.cells (rowc [3, 1]) 3)).alloc (.cells (rowc [2, 4]) 3)) := (hw1.alloc hz _).alloc (by simp; omega) _
  have r2 := (row_lit w1 [3, 1] 2 rfl).later ((Below.refl _ _).alloc (Nat.le_refl _) (.cells (rowc [2, 4]) 3))
  have r3 := row_lit (w1.alloc (.cells (rowc [3, 1]) 3)) [2, 4] 2 rfl
  rw [World.size_alloc] at r3
  have M2 := Lib.hid (Johnson_yes (some ⟨w1.heap.size, 0, none⟩) (some ⟨w1.heap.size + 1, 0, none⟩) 2 2 2 [3, 1] [2, 4] _ r2 r3 (small_lit (by decide)) (small_lit (by decide)) (by omega))
  have hRl := hR.later (((Below.refl _ _).alloc (Nat.le_refl _) (.cells (rowc [3, 1]) 3)).alloc (by simp) (.cells (rowc [2, 4]) 3))
  clear r2 r3
  go_wp2_with fail
  refine M2.out.mono ?_
  rintro e w2 ⟨R', o', rfl, hP, hS, hR', hb3⟩
  obtain rfl := lives_john hP hS
  have e7 : lenF [3, 1] [2, 4] 0 0 [1, 0] = 7 := by decide
  rw [e7]
  have hw2 := hb2.trans (hb3.mono (by simp; omega))
  have hR2 := hRl.later hb3
  clear M2 hP hS e7 hb3 hb2 hR hRl
  have hb4 : Below w2.heap.size w2 (w2.alloc (.cells (rowc [1, 0]) 3)) := (Below.refl _ _).alloc (Nat.le_refl _) _
  have S1 := Lib.hid (same_true (some ⟨R, 0, none⟩) (some ⟨w2.heap.size, 0, none⟩) 2 2 2 [1, 0] (w2.alloc (.cells (rowc [1, 0]) 3)) (hR2.later hb4) (row_lit w2 [1, 0] 2 rfl) (by omega))
  have S2 := fun w3 (h : Below w2.heap.size w2 w3) => Lib.hid (same_true (some ⟨R', 0, none⟩) (some ⟨w3.heap.size, 0, none⟩) 2 2 2 [1, 0] (w3.alloc (.cells (rowc [1, 0]) 3)) ((hR'.later h).later ((Below.refl _ _).alloc (Nat.le_refl _) _)) (row_lit w3 [1, 0] 2 rfl) (by omega))
  have S3 := Lib.hid S2
  clear S2
  go_wp2_with fail
  refine S1.out.mono ?_
  rintro e w3 ⟨rfl, hb5⟩
  have hb6 := hb4.trans (hb5.mono (by simp))
  have S4 := Lib.hid (S3.out w3 hb6).out
  clear S1 S3
  go_wp2_with fail
  refine S4.out.mono ?_
  rintro e w4 ⟨rfl, hb7⟩
  have hw3 := hw2.trans (hb6.mono hw2.size)
  have hw4 := hw3.alloc hw3.size (.cells (rowc [1, 0]) 3)
  have hfin := hw4.trans (hb7.mono hw4.size)
  go_wp2_with fail
  go_ret
  exact ⟨rfl, hfin⟩
end Go.Proofs.Ytnfcigbiebbjdaa
