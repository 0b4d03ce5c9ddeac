/-
  Smith's comparison of two jobs.
  Conditions: the jobs' numbers are small.
-/
import Derived.Test.YtnfcigbiebbjdaaRows5
import Derived.Test.YtnfcigbiebbjdaaFresh
import Derived.Deep.RegionHeld3
namespace Go.Proofs.Ytnfcigbiebbjdaa
open Go.RowKit

abbrev Z5 : Array Value := #[.int .i64 0, .int .i64 0, .int .i64 0, .int .i64 0, .slice none 0 0]
def Jb.cells (j : Jb) (v : Value) : Array Value := #[.int .i64 j.work, .int .i64 j.rel, .int .i64 j.due, .int .i64 j.wt, v]
/-- The numbers of a job are small. -/
def Tame (j : Jb) : Prop := 0 ≤ j.work ∧ j.work ≤ 10000 ∧ 0 ≤ j.wt ∧ j.wt ≤ 1000
theorem validB_tame {l : List Jb} (h : validB l = true) {k : Nat} {j : Jb} (hj : l[k]? = some j) : Tame j := by
  unfold validB at h
  simp only [Bool.and_eq_true] at h
  have := allB_step hj h.2
  unfold jobB at this
  simp only [Bool.and_eq_true, decide_eq_true_eq] at this
  exact ⟨by omega, by omega, by omega, by omega⟩

theorem forget {F G : World → Prop} {W0 : World} (h : F W0) (k : ∀ W, F W → G W) : G W0 := k W0 h

set_option maxHeartbeats 8000000 in
theorem smithCmp_any (A : Option Addr) (n c b i j : Nat) (l : List Jb) (W : World) (h2 : Blk W b 22 #[.slice A n c]) (rA : JobsH W A n l) (hi : i < n) (hj : j < n) (ht : ∀ (k : Nat) (x : Jb), l[k]? = some x → Tame x) :
    Calls Try.prog 55 #[.int .i64 i, .int .i64 j, .pointer (some ⟨b, 0, none⟩)] W fun e w' => e = .returned (.int .i64 (smithC l i j)) ∧ Below W.heap.size W w' := by
  obtain ⟨g, x, rfl, hg, hx, x0, x1, x2, x3, BX, mX, cX, x4, _⟩ := rA.at_ hi
  obtain ⟨g', y, e1, _, hy, y0, y1, y2, y3, BY, mY, cY, y4, _⟩ := rA.at_ hj
  cases e1
  have HS : Hid (smithC l i j = if x.wt = 0 ∨ y.wt = 0 then cmpI (min 1 y.wt) (min 1 x.wt) else cmpI (x.work * y.wt) (y.work * x.wt)) := by
    show _ = _
    unfold smithC
    rw [jat_get hx, jat_get hy]
  have tx := ht i x hx
  have ty := ht j y hy
  have l2 := h2.lt
  have c2 := h2.cell
  clear rA ht hx hy h2
  go_enter Try.func55, Try.ntmps55
  go_wp2_with fail
  refine wp_region_held_drew (S := fun V => Below W.heap.size W V) (by kernel_rfl) ((Below.refl _ _).drew) (fun hHeld => ?_)
  refine wpAnyH_take (i := 0) (v := ?_) rfl (by kernel_rfl) (by kernel_rfl) (by kernel_rfl) (fun _ _ _ h => h) (Or.inl ⟨by rfl, ?hy⟩) (by assumption) ?_
  case hy => (intro w hSw; have hcw : ∀ p o, p < W.heap.size → w.cell? ⟨p, o, none⟩ = W.cell? ⟨p, o, none⟩ := (fun p o h => hSw.cell (p := ⟨p, o, none⟩) h); clear hSw; go_simp; try with_reducible rfl)
  refine wpAnyH_take (i := 1) (v := ?_) rfl (by kernel_rfl) (by kernel_rfl) (by kernel_rfl) (fun _ _ _ h => h) (Or.inl ⟨by rfl, ?hy⟩) (by assumption) ?_
  case hy => (intro w hSw; have hcw : ∀ p o, p < W.heap.size → w.cell? ⟨p, o, none⟩ = W.cell? ⟨p, o, none⟩ := (fun p o h => hSw.cell (p := ⟨p, o, none⟩) h); clear hSw; go_simp; try with_reducible rfl)
  refine wpAnyH_take (i := 2) (v := ?_) rfl (by kernel_rfl) (by kernel_rfl) (by kernel_rfl) (fun _ _ _ h => h) (Or.inl ⟨by rfl, ?hy⟩) (by assumption) ?_
  case hy => (intro w hSw; have hcw : ∀ p o, p < W.heap.size → w.cell? ⟨p, o, none⟩ = W.cell? ⟨p, o, none⟩ := (fun p o h => hSw.cell (p := ⟨p, o, none⟩) h); clear hSw; go_simp; try with_reducible rfl)
  refine wpAnyH_take (i := 3) (v := ?_) rfl (by kernel_rfl) (by kernel_rfl) (by kernel_rfl) (fun _ _ _ h => h) (Or.inl ⟨by rfl, ?hy⟩) (by assumption) ?_
  case hy => (intro w hSw; have hcw : ∀ p o, p < W.heap.size → w.cell? ⟨p, o, none⟩ = W.cell? ⟨p, o, none⟩ := (fun p o h => hSw.cell (p := ⟨p, o, none⟩) h); clear hSw; go_simp; try with_reducible rfl)
  refine wpAnyH_take (i := 4) (v := ?_) rfl (by kernel_rfl) (by kernel_rfl) (by kernel_rfl) (fun _ _ _ h => h) (Or.inl ⟨by rfl, ?hy⟩) (by assumption) ?_
  case hy => (intro w hSw; have hcw : ∀ p o, p < W.heap.size → w.cell? ⟨p, o, none⟩ = W.cell? ⟨p, o, none⟩ := (fun p o h => hSw.cell (p := ⟨p, o, none⟩) h); clear hSw; go_simp; try with_reducible rfl)
  refine wpAnyH_take (i := 5) (v := ?_) rfl (by kernel_rfl) (by kernel_rfl) (by kernel_rfl) (fun _ _ _ h => h) (Or.inl ⟨by rfl, ?hy⟩) (by assumption) ?_
  case hy => (intro w hSw; have hcw : ∀ p o, p < W.heap.size → w.cell? ⟨p, o, none⟩ = W.cell? ⟨p, o, none⟩ := (fun p o h => hSw.cell (p := ⟨p, o, none⟩) h); clear hSw; go_simp; try with_reducible rfl)
  refine wpAnyH_take (i := 6) (v := ?_) rfl (by kernel_rfl) (by kernel_rfl) (by kernel_rfl) (fun _ _ _ h => h) (Or.inl ⟨by rfl, ?hy⟩) (by assumption) ?_
  case hy => (intro w hSw; have hcw : ∀ p o, p < W.heap.size → w.cell? ⟨p, o, none⟩ = W.cell? ⟨p, o, none⟩ := (fun p o h => hSw.cell (p := ⟨p, o, none⟩) h); clear hSw; go_simp; try with_reducible rfl)
  refine wpAnyH_take (i := 7) (v := ?_) rfl (by kernel_rfl) (by kernel_rfl) (by kernel_rfl) (fun _ _ _ h => h) (Or.inl ⟨by rfl, ?hy⟩) (by assumption) ?_
  case hy => (intro w hSw; have hcw : ∀ p o, p < W.heap.size → w.cell? ⟨p, o, none⟩ = W.cell? ⟨p, o, none⟩ := (fun p o h => hSw.cell (p := ⟨p, o, none⟩) h); clear hSw; go_simp; try with_reducible rfl)
  simp only [Act.put, List.setIfInBounds_toArray]
  clear c2 x0 x1 x2 x3 x4 y0 y1 y2 y3 y4
  refine wpAnyH_ready (rs := [8, 9]) (by kernel_rfl) (by simp) (AllReadyH.cons rfl (fun K hK => ?_) (AllReadyH.cons rfl (fun K hK => ?_) AllReadyH.nil))
  · go_simp
    refine hK.out _ _ (hHeld.alloc (by simp) _) (fun hH2 => ?_)
    clear hK K hHeld
    refine wpAnyH_ready (rs := [9]) (by kernel_rfl) (by simp) (AllReadyH.cons rfl (fun K hK => ?_) AllReadyH.nil)
    go_simp
    refine hK.out _ _ (hH2.alloc (by simp) _) (fun hH3 => ?_)
    clear hK K hH2
    have n5 : Blk ((W.drew.alloc (.cells Z5 43)).alloc (.cells Z5 43)) W.heap.size 43 Z5 := (Blk.new W.drew 43 Z5).alloc _
    have n6 : Blk ((W.drew.alloc (.cells Z5 43)).alloc (.cells Z5 43)) (W.heap.size + 1) 43 Z5 := by
      have h := Blk.new (W.drew.alloc (.cells Z5 43)) 43 Z5
      rwa [World.size_alloc] at h
    have hne : W.heap.size ≠ (W.heap.size + 1) := by omega
    refine forget (F := fun V => Blk V W.heap.size 43 Z5 ∧ Blk V (W.heap.size + 1) 43 Z5 ∧ Below W.heap.size W V) ⟨n5, n6, hH3⟩ ?_
    clear n5 n6 hH3
    rintro V ⟨k5, k6, hV⟩
    have c5 := k5.cell
    have f5 := k5.frozen
    refine wpAnyH_ready (rs := [10]) (by kernel_rfl) (by simp) (AllReadyH.cons rfl (fun K hK => ?_) AllReadyH.nil)
    go_simp
    have s5 := ((((k5.set_ 0 (.int .i64 x.work)).set_ 1 (.int .i64 x.rel)).set_ 2 (.int .i64 x.due)).set_ 3 (.int .i64 x.wt)).set_ 4 (.slice BX mX cX)
    have s6 := ((((k6.far (p := ⟨W.heap.size, 0, none⟩) hne.symm (.int .i64 x.work)).far (p := ⟨W.heap.size, 1, none⟩) hne.symm (.int .i64 x.rel)).far (p := ⟨W.heap.size, 2, none⟩) hne.symm (.int .i64 x.due)).far (p := ⟨W.heap.size, 3, none⟩) hne.symm (.int .i64 x.wt)).far (p := ⟨W.heap.size, 4, none⟩) hne.symm (.slice BX mX cX)
    have hV2 := (((((hV.setCell (p := ⟨W.heap.size, 0, none⟩) (by simp) (.int .i64 x.work)).setCell (p := ⟨W.heap.size, 1, none⟩) (by simp) (.int .i64 x.rel)).setCell (p := ⟨W.heap.size, 2, none⟩) (by simp) (.int .i64 x.due)).setCell (p := ⟨W.heap.size, 3, none⟩) (by simp) (.int .i64 x.wt)).setCell (p := ⟨W.heap.size, 4, none⟩) (by simp) (.slice BX mX cX))
    refine hK.out _ _ hV2 (fun _ => ?_)
    clear hK K c5 f5 k5 k6 hV
    refine forget (F := fun V => Blk V W.heap.size 43 (x.cells (.slice BX mX cX)) ∧ Blk V (W.heap.size + 1) 43 Z5 ∧ Below W.heap.size W V) ⟨s5, s6, hV2⟩ ?_
    clear s5 s6 hV2
    rintro V ⟨k5, k6, hV⟩
    have c6 := k6.cell
    have f6 := k6.frozen
    refine wpAnyH_ready (rs := [11]) (by kernel_rfl) (by simp) (AllReadyH.cons rfl (fun K hK => ?_) AllReadyH.nil)
    go_simp
    have hx6 := ((((k6.set_ 0 (.int .i64 y.work)).set_ 1 (.int .i64 y.rel)).set_ 2 (.int .i64 y.due)).set_ 3 (.int .i64 y.wt)).set_ 4 (.slice BY mY cY)
    have hx5 := ((((k5.far (p := ⟨(W.heap.size + 1), 0, none⟩) hne (.int .i64 y.work)).far (p := ⟨(W.heap.size + 1), 1, none⟩) hne (.int .i64 y.rel)).far (p := ⟨(W.heap.size + 1), 2, none⟩) hne (.int .i64 y.due)).far (p := ⟨(W.heap.size + 1), 3, none⟩) hne (.int .i64 y.wt)).far (p := ⟨(W.heap.size + 1), 4, none⟩) hne (.slice BY mY cY)
    have hfin := (((((hV.setCell (p := ⟨(W.heap.size + 1), 0, none⟩) (by simp) (.int .i64 y.work)).setCell (p := ⟨(W.heap.size + 1), 1, none⟩) (by simp) (.int .i64 y.rel)).setCell (p := ⟨(W.heap.size + 1), 2, none⟩) (by simp) (.int .i64 y.due)).setCell (p := ⟨(W.heap.size + 1), 3, none⟩) (by simp) (.int .i64 y.wt)).setCell (p := ⟨(W.heap.size + 1), 4, none⟩) (by simp) (.slice BY mY cY))
    refine hK.out _ _ hfin (fun _ => ?_)
    refine wpAnyH_done (by kernel_rfl) ?_ _
    clear hK K c6 f6 k5 k6 hV
    refine forget (F := fun V => Blk V W.heap.size 43 (x.cells (.slice BX mX cX)) ∧ Blk V (W.heap.size + 1) 43 (y.cells (.slice BY mY cY)) ∧ Below W.heap.size W V) ⟨hx5, hx6, hfin⟩ ?_
    clear hx5 hx6 hfin
    rintro V ⟨v5, v6, hV⟩
    have c5 : ∀ o, V.cell? ⟨W.heap.size, o, none⟩ = (#[.int .i64 x.work, .int .i64 x.rel, .int .i64 x.due, .int .i64 x.wt, .slice BX mX cX] : Array Value)[o]? := v5.cell
    have c6 : ∀ o, V.cell? ⟨(W.heap.size + 1), o, none⟩ = (#[.int .i64 y.work, .int .i64 y.rel, .int .i64 y.due, .int .i64 y.wt, .slice BY mY cY] : Array Value)[o]? := v6.cell
    have z5 := v5.lt
    have z6 := v6.lt
    obtain ⟨p0, p1, w0, w1⟩ := tx
    obtain ⟨p0', p1', w0', w1'⟩ := ty
    clear v5 v6
    by_cases h1 : x.wt = 0 ∨ y.wt = 0
    · have HE := Lib.hid (HS.out.trans (if_pos h1))
      have hz : (x.wt == 0) = true ∨ (x.wt == 0) = false ∧ (y.wt == 0) = true := by
        by_cases hh : x.wt = 0
        · exact .inl (by simp [hh])
        · exact .inr ⟨by simp [hh], by simp [h1.resolve_left hh]⟩
      have m1 : (x.wt < 1 ∨ x.wt = 1 ∨ 1 < x.wt) := by omega
      have m2 : (y.wt < 1 ∨ y.wt = 1 ∨ 1 < y.wt) := by omega
      clear h1
      rcases hz with hz | ⟨hz, hz2⟩ <;> rcases m1 with m1 | m1 | m1 <;> rcases m2 with m2 | m2 | m2
      all_goals first
        | (exfalso; simp at hz; omega)
        | (exfalso; simp at hz2; omega)
        | (have e1 : min 1 x.wt = (if x.wt < 1 then x.wt else 1) := by split <;> omega
           have e2 : min 1 y.wt = (if y.wt < 1 then y.wt else 1) := by split <;> omega
           first | rw [if_pos m1] at e1 | rw [if_neg (by omega)] at e1
           first | rw [if_pos m2] at e2 | rw [if_neg (by omega)] at e2
           have HE2 := HE.out
           rw [e1, e2] at HE2
           have HE3 := Lib.hid HE2
           clear e1 e2 HE HE2 HS
           go_wp2_with (go_at_call 56; refine (compare_any _ _ _).mono ?_; rintro e w' ⟨rfl, rfl⟩)
           go_ret
           exact ⟨by rw [HE3.out]; rfl, hV⟩)
    · have HE := Lib.hid (HS.out.trans (if_neg h1))
      have hz : (x.wt == 0) = false := by simp; omega
      have hz2 : (y.wt == 0) = false := by simp; omega
      have q1 : 0 ≤ x.work * y.wt := Int.mul_nonneg p0 w0'
      have q2 : x.work * y.wt ≤ 10000 * 1000 := Int.mul_le_mul p1 w1' w0' (by omega)
      have q3 : 0 ≤ y.work * x.wt := Int.mul_nonneg p0' w0
      have q4 : y.work * x.wt ≤ 10000 * 1000 := Int.mul_le_mul p1' w1 w0 (by omega)
      clear h1 HS
      go_wp2_with (go_at_call 56; refine (compare_any _ _ _).mono ?_; rintro e w' ⟨rfl, rfl⟩)
      go_ret
      exact ⟨by rw [HE.out]; rfl, hV⟩
  · go_simp
    refine hK.out _ _ (hHeld.alloc (by simp) _) (fun hH2 => ?_)
    clear hK K hHeld
    refine wpAnyH_ready (rs := [8]) (by kernel_rfl) (by simp) (AllReadyH.cons rfl (fun K hK => ?_) AllReadyH.nil)
    go_simp
    refine hK.out _ _ (hH2.alloc (by simp) _) (fun hH3 => ?_)
    clear hK K hH2
    have n5 : Blk ((W.drew.alloc (.cells Z5 43)).alloc (.cells Z5 43)) W.heap.size 43 Z5 := (Blk.new W.drew 43 Z5).alloc _
    have n6 : Blk ((W.drew.alloc (.cells Z5 43)).alloc (.cells Z5 43)) (W.heap.size + 1) 43 Z5 := by
      have h := Blk.new (W.drew.alloc (.cells Z5 43)) 43 Z5
      rwa [World.size_alloc] at h
    have hne : (W.heap.size + 1) ≠ W.heap.size := by omega
    refine forget (F := fun V => Blk V (W.heap.size + 1) 43 Z5 ∧ Blk V W.heap.size 43 Z5 ∧ Below W.heap.size W V) ⟨n6, n5, hH3⟩ ?_
    clear n5 n6 hH3
    rintro V ⟨k5, k6, hV⟩
    have c5 := k5.cell
    have f5 := k5.frozen
    refine wpAnyH_ready (rs := [10]) (by kernel_rfl) (by simp) (AllReadyH.cons rfl (fun K hK => ?_) AllReadyH.nil)
    go_simp
    have s5 := ((((k5.set_ 0 (.int .i64 x.work)).set_ 1 (.int .i64 x.rel)).set_ 2 (.int .i64 x.due)).set_ 3 (.int .i64 x.wt)).set_ 4 (.slice BX mX cX)
    have s6 := ((((k6.far (p := ⟨(W.heap.size + 1), 0, none⟩) hne.symm (.int .i64 x.work)).far (p := ⟨(W.heap.size + 1), 1, none⟩) hne.symm (.int .i64 x.rel)).far (p := ⟨(W.heap.size + 1), 2, none⟩) hne.symm (.int .i64 x.due)).far (p := ⟨(W.heap.size + 1), 3, none⟩) hne.symm (.int .i64 x.wt)).far (p := ⟨(W.heap.size + 1), 4, none⟩) hne.symm (.slice BX mX cX)
    have hV2 := (((((hV.setCell (p := ⟨(W.heap.size + 1), 0, none⟩) (by simp) (.int .i64 x.work)).setCell (p := ⟨(W.heap.size + 1), 1, none⟩) (by simp) (.int .i64 x.rel)).setCell (p := ⟨(W.heap.size + 1), 2, none⟩) (by simp) (.int .i64 x.due)).setCell (p := ⟨(W.heap.size + 1), 3, none⟩) (by simp) (.int .i64 x.wt)).setCell (p := ⟨(W.heap.size + 1), 4, none⟩) (by simp) (.slice BX mX cX))
    refine hK.out _ _ hV2 (fun _ => ?_)
    clear hK K c5 f5 k5 k6 hV
    refine forget (F := fun V => Blk V (W.heap.size + 1) 43 (x.cells (.slice BX mX cX)) ∧ Blk V W.heap.size 43 Z5 ∧ Below W.heap.size W V) ⟨s5, s6, hV2⟩ ?_
    clear s5 s6 hV2
    rintro V ⟨k5, k6, hV⟩
    have c6 := k6.cell
    have f6 := k6.frozen
    refine wpAnyH_ready (rs := [11]) (by kernel_rfl) (by simp) (AllReadyH.cons rfl (fun K hK => ?_) AllReadyH.nil)
    go_simp
    have hx6 := ((((k6.set_ 0 (.int .i64 y.work)).set_ 1 (.int .i64 y.rel)).set_ 2 (.int .i64 y.due)).set_ 3 (.int .i64 y.wt)).set_ 4 (.slice BY mY cY)
    have hx5 := ((((k5.far (p := ⟨W.heap.size, 0, none⟩) hne (.int .i64 y.work)).far (p := ⟨W.heap.size, 1, none⟩) hne (.int .i64 y.rel)).far (p := ⟨W.heap.size, 2, none⟩) hne (.int .i64 y.due)).far (p := ⟨W.heap.size, 3, none⟩) hne (.int .i64 y.wt)).far (p := ⟨W.heap.size, 4, none⟩) hne (.slice BY mY cY)
    have hfin := (((((hV.setCell (p := ⟨W.heap.size, 0, none⟩) (by simp) (.int .i64 y.work)).setCell (p := ⟨W.heap.size, 1, none⟩) (by simp) (.int .i64 y.rel)).setCell (p := ⟨W.heap.size, 2, none⟩) (by simp) (.int .i64 y.due)).setCell (p := ⟨W.heap.size, 3, none⟩) (by simp) (.int .i64 y.wt)).setCell (p := ⟨W.heap.size, 4, none⟩) (by simp) (.slice BY mY cY))
    refine hK.out _ _ hfin (fun _ => ?_)
    refine wpAnyH_done (by kernel_rfl) ?_ _
    clear hK K c6 f6 k5 k6 hV
    refine forget (F := fun V => Blk V (W.heap.size + 1) 43 (x.cells (.slice BX mX cX)) ∧ Blk V W.heap.size 43 (y.cells (.slice BY mY cY)) ∧ Below W.heap.size W V) ⟨hx5, hx6, hfin⟩ ?_
    clear hx5 hx6 hfin
    rintro V ⟨v5, v6, hV⟩
    have c5 : ∀ o, V.cell? ⟨(W.heap.size + 1), o, none⟩ = (#[.int .i64 x.work, .int .i64 x.rel, .int .i64 x.due, .int .i64 x.wt, .slice BX mX cX] : Array Value)[o]? := v5.cell
    have c6 : ∀ o, V.cell? ⟨W.heap.size, o, none⟩ = (#[.int .i64 y.work, .int .i64 y.rel, .int .i64 y.due, .int .i64 y.wt, .slice BY mY cY] : Array Value)[o]? := v6.cell
    have z5 := v5.lt
    have z6 := v6.lt
    obtain ⟨p0, p1, w0, w1⟩ := tx
    obtain ⟨p0', p1', w0', w1'⟩ := ty
    clear v5 v6
    by_cases h1 : x.wt = 0 ∨ y.wt = 0
    · have HE := Lib.hid (HS.out.trans (if_pos h1))
      have hz : (x.wt == 0) = true ∨ (x.wt == 0) = false ∧ (y.wt == 0) = true := by
        by_cases hh : x.wt = 0
        · exact .inl (by simp [hh])
        · exact .inr ⟨by simp [hh], by simp [h1.resolve_left hh]⟩
      have m1 : (x.wt < 1 ∨ x.wt = 1 ∨ 1 < x.wt) := by omega
      have m2 : (y.wt < 1 ∨ y.wt = 1 ∨ 1 < y.wt) := by omega
      clear h1
      rcases hz with hz | ⟨hz, hz2⟩ <;> rcases m1 with m1 | m1 | m1 <;> rcases m2 with m2 | m2 | m2
      all_goals first
        | (exfalso; simp at hz; omega)
        | (exfalso; simp at hz2; omega)
        | (have e1 : min 1 x.wt = (if x.wt < 1 then x.wt else 1) := by split <;> omega
           have e2 : min 1 y.wt = (if y.wt < 1 then y.wt else 1) := by split <;> omega
           first | rw [if_pos m1] at e1 | rw [if_neg (by omega)] at e1
           first | rw [if_pos m2] at e2 | rw [if_neg (by omega)] at e2
           have HE2 := HE.out
           rw [e1, e2] at HE2
           have HE3 := Lib.hid HE2
           clear e1 e2 HE HE2 HS
           go_wp2_with (go_at_call 56; refine (compare_any _ _ _).mono ?_; rintro e w' ⟨rfl, rfl⟩)
           go_ret
           exact ⟨by rw [HE3.out]; rfl, hV⟩)
    · have HE := Lib.hid (HS.out.trans (if_neg h1))
      have hz : (x.wt == 0) = false := by simp; omega
      have hz2 : (y.wt == 0) = false := by simp; omega
      have q1 : 0 ≤ x.work * y.wt := Int.mul_nonneg p0 w0'
      have q2 : x.work * y.wt ≤ 10000 * 1000 := Int.mul_le_mul p1 w1' w0' (by omega)
      have q3 : 0 ≤ y.work * x.wt := Int.mul_nonneg p0' w0
      have q4 : y.work * x.wt ≤ 10000 * 1000 := Int.mul_le_mul p1' w1 w0 (by omega)
      clear h1 HS
      go_wp2_with (go_at_call 56; refine (compare_any _ _ _).mono ?_; rintro e w' ⟨rfl, rfl⟩)
      go_ret
      exact ⟨by rw [HE.out]; rfl, hV⟩
end Go.Proofs.Ytnfcigbiebbjdaa
