/-
  The seat's texts SmithC Smith QLives QRef Mixed in one: the contracts of the functions that the law reaches, and the plain laws that they rest on.
  Conditions: as each theorem states them.
-/
import Derived.Test.YtnfcigbiebbjdaaG4
import Derived.Test.YtnfcigbiebbjdaaG5
import Derived.Deep.RegionHeld3
import Derived.Test.YtnfcigbiebbjdaaG1
namespace Go.Proofs.Ytnfcigbiebbjdaa
open Go.RowKit

abbrev Z5 : Array Value := #[.int .i64 0, .int .i64 0, .int .i64 0, .int .i64 0, .slice none 0 0]
def Jb.cells (j : Jb) (v : Value) : Array Value := #[.int .i64 j.work, .int .i64 j.rel, .int .i64 j.due, .int .i64 j.wt, v]
/-- The numbers of a job are small. -/
def Tame (j : Jb) : Prop := 0 ≤ j.work ∧ j.work ≤ 10000 ∧ 0 ≤ j.wt ∧ j.wt ≤ 1000
theorem validB_tame {l : List Jb} (h : validB l = true) {k : Nat} {j : Jb} (hj : l[k]? = some j) : Tame j := by
  unfold validB at h
  simp only [Bool.and_eq_true] at h
  have := allB_step hj h.2
  unfold jobB at this
  simp only [Bool.and_eq_true, decide_eq_true_eq] at this
  exact ⟨by omega, by omega, by omega, by omega⟩

theorem forget {F G : World → Prop} {W0 : World} (h : F W0) (k : ∀ W, F W → G W) : G W0 := k W0 h

set_option maxHeartbeats 8000000 in
theorem smithCmp_any (A : Option Addr) (n c b i j : Nat) (l : List Jb) (W : World) (h2 : Blk W b 22 #[.slice A n c]) (rA : JobsH W A n l) (hi : i < n) (hj : j < n) (ht : ∀ (k : Nat) (x : Jb), l[k]? = some x → Tame x) :
    Calls Try.prog 55 #[.int .i64 i, .int .i64 j, .pointer (some ⟨b, 0, none⟩)] W fun e w' => e = .returned (.int .i64 (smithC l i j)) ∧ Below W.heap.size W w' := by
  obtain ⟨g, x, rfl, hg, hx, x0, x1, x2, x3, BX, mX, cX, x4, _⟩ := rA.at_ hi
  obtain ⟨g', y, e1, _, hy, y0, y1, y2, y3, BY, mY, cY, y4, _⟩ := rA.at_ hj
  cases e1
  have HS : Hid (smithC l i j = if x.wt = 0 ∨ y.wt = 0 then cmpI (min 1 y.wt) (min 1 x.wt) else cmpI (x.work * y.wt) (y.work * x.wt)) := by
    show _ = _
    unfold smithC
    rw [jat_get hx, jat_get hy]
  have tx := ht i x hx
  have ty := ht j y hy
  have l2 := h2.lt
  have c2 := h2.cell
  clear rA ht hx hy h2
  go_enter Try.func55, Try.ntmps55
  go_wp2_with fail
  refine wp_region_held_drew (S := fun V => Below W.heap.size W V) (by kernel_rfl) ((Below.refl _ _).drew) (fun hHeld => ?_)
  refine wpAnyH_take (i := 0) (v := ?_) rfl (by kernel_rfl) (by kernel_rfl) (by kernel_rfl) (fun _ _ _ h => h) (Or.inl ⟨by rfl, ?hy⟩) (by assumption) ?_
  case hy => (intro w hSw; have hcw : ∀ p o, p < W.heap.size → w.cell? ⟨p, o, none⟩ = W.cell? ⟨p, o, none⟩ := (fun p o h => hSw.cell (p := ⟨p, o, none⟩) h); clear hSw; go_simp; try with_reducible rfl)
  refine wpAnyH_take (i := 1) (v := ?_) rfl (by kernel_rfl) (by kernel_rfl) (by kernel_rfl) (fun _ _ _ h => h) (Or.inl ⟨by rfl, ?hy⟩) (by assumption) ?_
  case hy => (intro w hSw; have hcw : ∀ p o, p < W.heap.size → w.cell? ⟨p, o, none⟩ = W.cell? ⟨p, o, none⟩ := (fun p o h => hSw.cell (p := ⟨p, o, none⟩) h); clear hSw; go_simp; try with_reducible rfl)
  refine wpAnyH_take (i := 2) (v := ?_) rfl (by kernel_rfl) (by kernel_rfl) (by kernel_rfl) (fun _ _ _ h => h) (Or.inl ⟨by rfl, ?hy⟩) (by assumption) ?_
  case hy => (intro w hSw; have hcw : ∀ p o, p < W.heap.size → w.cell? ⟨p, o, none⟩ = W.cell? ⟨p, o, none⟩ := (fun p o h => hSw.cell (p := ⟨p, o, none⟩) h); clear hSw; go_simp; try with_reducible rfl)
  refine wpAnyH_take (i := 3) (v := ?_) rfl (by kernel_rfl) (by kernel_rfl) (by kernel_rfl) (fun _ _ _ h => h) (Or.inl ⟨by rfl, ?hy⟩) (by assumption) ?_
  case hy => (intro w hSw; have hcw : ∀ p o, p < W.heap.size → w.cell? ⟨p, o, none⟩ = W.cell? ⟨p, o, none⟩ := (fun p o h => hSw.cell (p := ⟨p, o, none⟩) h); clear hSw; go_simp; try with_reducible rfl)
  refine wpAnyH_take (i := 4) (v := ?_) rfl (by kernel_rfl) (by kernel_rfl) (by kernel_rfl) (fun _ _ _ h => h) (Or.inl ⟨by rfl, ?hy⟩) (by assumption) ?_
  case hy => (intro w hSw; have hcw : ∀ p o, p < W.heap.size → w.cell? ⟨p, o, none⟩ = W.cell? ⟨p, o, none⟩ := (fun p o h => hSw.cell (p := ⟨p, o, none⟩) h); clear hSw; go_simp; try with_reducible rfl)
  refine wpAnyH_take (i := 5) (v := ?_) rfl (by kernel_rfl) (by kernel_rfl) (by kernel_rfl) (fun _ _ _ h => h) (Or.inl ⟨by rfl, ?hy⟩) (by assumption) ?_
  case hy => (intro w hSw; have hcw : ∀ p o, p < W.heap.size → w.cell? ⟨p, o, none⟩ = W.cell? ⟨p, o, none⟩ := (fun p o h => hSw.cell (p := ⟨p, o, none⟩) h); clear hSw; go_simp; try with_reducible rfl)
  refine wpAnyH_take (i := 6) (v := ?_) rfl (by kernel_rfl) (by kernel_rfl) (by kernel_rfl) (fun _ _ _ h => h) (Or.inl ⟨by rfl, ?hy⟩) (by assumption) ?_
  case hy => (intro w hSw; have hcw : ∀ p o, p < W.heap.size → w.cell? ⟨p, o, none⟩ = W.cell? ⟨p, o, none⟩ := (fun p o h => hSw.cell (p := ⟨p, o, none⟩) h); clear hSw; go_simp; try with_reducible rfl)
  refine wpAnyH_take (i := 7) (v := ?_) rfl (by kernel_rfl) (by kernel_rfl) (by kernel_rfl) (fun _ _ _ h => h) (Or.inl ⟨by rfl, ?hy⟩) (by assumption) ?_
  case hy => (intro w hSw; have hcw : ∀ p o, p < W.heap.size → w.cell? ⟨p, o, none⟩ = W.cell? ⟨p, o, none⟩ := (fun p o h => hSw.cell (p := ⟨p, o, none⟩) h); clear hSw; go_simp; try with_reducible rfl)
  simp only [Act.put, List.setIfInBounds_toArray]
  clear c2 x0 x1 x2 x3 x4 y0 y1 y2 y3 y4
  refine wpAnyH_ready (rs := [8, 9]) (by kernel_rfl) (by simp) (AllReadyH.cons rfl (fun K hK => ?_) (AllReadyH.cons rfl (fun K hK => ?_) AllReadyH.nil))
  · go_simp
    refine hK.out _ _ (hHeld.alloc (by simp) _) (fun hH2 => ?_)
    clear hK K hHeld
    refine wpAnyH_ready (rs := [9]) (by kernel_rfl) (by simp) (AllReadyH.cons rfl (fun K hK => ?_) AllReadyH.nil)
    go_simp
    refine hK.out _ _ (hH2.alloc (by simp) _) (fun hH3 => ?_)
    clear hK K hH2
    have n5 : Blk ((W.drew.alloc (.cells Z5 43)).alloc (.cells Z5 43)) W.heap.size 43 Z5 := (Blk.new W.drew 43 Z5).alloc _
    have n6 : Blk ((W.drew.alloc (.cells Z5 43)).alloc (.cells Z5 43)) (W.heap.size + 1) 43 Z5 := by
      have h := Blk.new (W.drew.alloc (.cells Z5 43)) 43 Z5
      rwa [World.size_alloc] at h
    have hne : W.heap.size ≠ (W.heap.size + 1) := by omega
    refine forget (F := fun V => Blk V W.heap.size 43 Z5 ∧ Blk V (W.heap.size + 1) 43 Z5 ∧ Below W.heap.size W V) ⟨n5, n6, hH3⟩ ?_
    clear n5 n6 hH3
    rintro V ⟨k5, k6, hV⟩
    have c5 := k5.cell
    have f5 := k5.frozen
    refine wpAnyH_ready (rs := [10]) (by kernel_rfl) (by simp) (AllReadyH.cons rfl (fun K hK => ?_) AllReadyH.nil)
    go_simp
    have s5 := ((((k5.set_ 0 (.int .i64 x.work)).set_ 1 (.int .i64 x.rel)).set_ 2 (.int .i64 x.due)).set_ 3 (.int .i64 x.wt)).set_ 4 (.slice BX mX cX)
    have s6 := ((((k6.far (p := ⟨W.heap.size, 0, none⟩) hne.symm (.int .i64 x.work)).far (p := ⟨W.heap.size, 1, none⟩) hne.symm (.int .i64 x.rel)).far (p := ⟨W.heap.size, 2, none⟩) hne.symm (.int .i64 x.due)).far (p := ⟨W.heap.size, 3, none⟩) hne.symm (.int .i64 x.wt)).far (p := ⟨W.heap.size, 4, none⟩) hne.symm (.slice BX mX cX)
    have hV2 := (((((hV.setCell (p := ⟨W.heap.size, 0, none⟩) (by simp) (.int .i64 x.work)).setCell (p := ⟨W.heap.size, 1, none⟩) (by simp) (.int .i64 x.rel)).setCell (p := ⟨W.heap.size, 2, none⟩) (by simp) (.int .i64 x.due)).setCell (p := ⟨W.heap.size, 3, none⟩) (by simp) (.int .i64 x.wt)).setCell (p := ⟨W.heap.size, 4, none⟩) (by simp) (.slice BX mX cX))
    refine hK.out _ _ hV2 (fun _ => ?_)
    clear hK K c5 f5 k5 k6 hV
    refine forget (F := fun V => Blk V W.heap.size 43 (x.cells (.slice BX mX cX)) ∧ Blk V (W.heap.size + 1) 43 Z5 ∧ Below W.heap.size W V) ⟨s5, s6, hV2⟩ ?_
    clear s5 s6 hV2
    rintro V ⟨k5, k6, hV⟩
    have c6 := k6.cell
    have f6 := k6.frozen
    refine wpAnyH_ready (rs := [11]) (by kernel_rfl) (by simp) (AllReadyH.cons rfl (fun K hK => ?_) AllReadyH.nil)
    go_simp
    have hx6 := ((((k6.set_ 0 (.int .i64 y.work)).set_ 1 (.int .i64 y.rel)).set_ 2 (.int .i64 y.due)).set_ 3 (.int .i64 y.wt)).set_ 4 (.slice BY mY cY)
    have hx5 := ((((k5.far (p := ⟨(W.heap.size + 1), 0, none⟩) hne (.int .i64 y.work)).far (p := ⟨(W.heap.size + 1), 1, none⟩) hne (.int .i64 y.rel)).far (p := ⟨(W.heap.size + 1), 2, none⟩) hne (.int .i64 y.due)).far (p := ⟨(W.heap.size + 1), 3, none⟩) hne (.int .i64 y.wt)).far (p := ⟨(W.heap.size + 1), 4, none⟩) hne (.slice BY mY cY)
    have hfin := (((((hV.setCell (p := ⟨(W.heap.size + 1), 0, none⟩) (by simp) (.int .i64 y.work)).setCell (p := ⟨(W.heap.size + 1), 1, none⟩) (by simp) (.int .i64 y.rel)).setCell (p := ⟨(W.heap.size + 1), 2, none⟩) (by simp) (.int .i64 y.due)).setCell (p := ⟨(W.heap.size + 1), 3, none⟩) (by simp) (.int .i64 y.wt)).setCell (p := ⟨(W.heap.size + 1), 4, none⟩) (by simp) (.slice BY mY cY))
    refine hK.out _ _ hfin (fun _ => ?_)
    refine wpAnyH_done (by kernel_rfl) ?_ _
    clear hK K c6 f6 k5 k6 hV
    refine forget (F := fun V => Blk V W.heap.size 43 (x.cells (.slice BX mX cX)) ∧ Blk V (W.heap.size + 1) 43 (y.cells (.slice BY mY cY)) ∧ Below W.heap.size W V) ⟨hx5, hx6, hfin⟩ ?_
    clear hx5 hx6 hfin
    rintro V ⟨v5, v6, hV⟩
    have c5 : ∀ o, V.cell? ⟨W.heap.size, o, none⟩ = (#[.int .i64 x.work, .int .i64 x.rel, .int .i64 x.due, .int .i64 x.wt, .slice BX mX cX] : Array Value)[o]? := v5.cell
    have c6 : ∀ o, V.cell? ⟨(W.heap.size + 1), o, none⟩ = (#[.int .i64 y.work, .int .i64 y.rel, .int .i64 y.due, .int .i64 y.wt, .slice BY mY cY] : Array Value)[o]? := v6.cell
    have z5 := v5.lt
    have z6 := v6.lt
    obtain ⟨p0, p1, w0, w1⟩ := tx
    obtain ⟨p0', p1', w0', w1'⟩ := ty
    clear v5 v6
    by_cases h1 : x.wt = 0 ∨ y.wt = 0
    · have HE := Lib.hid (HS.out.trans (if_pos h1))
      have hz : (x.wt == 0) = true ∨ (x.wt == 0) = false ∧ (y.wt == 0) = true := by
        by_cases hh : x.wt = 0
        · exact .inl (by simp [hh])
        · exact .inr ⟨by simp [hh], by simp [h1.resolve_left hh]⟩
      have m1 : (x.wt < 1 ∨ x.wt = 1 ∨ 1 < x.wt) := by omega
      have m2 : (y.wt < 1 ∨ y.wt = 1 ∨ 1 < y.wt) := by omega
      clear h1
      rcases hz with hz | ⟨hz, hz2⟩ <;> rcases m1 with m1 | m1 | m1 <;> rcases m2 with m2 | m2 | m2
      all_goals first
        | (exfalso; simp at hz; omega)
        | (exfalso; simp at hz2; omega)
        | (have e1 : min 1 x.wt = (if x.wt < 1 then x.wt else 1) := by split <;> omega
           have e2 : min 1 y.wt = (if y.wt < 1 then y.wt else 1) := by split <;> omega
           first | rw [if_pos m1] at e1 | rw [if_neg (by omega)] at e1
           first | rw [if_pos m2] at e2 | rw [if_neg (by omega)] at e2
           have HE2 := HE.out
           rw [e1, e2] at HE2
           have HE3 := Lib.hid HE2
           clear e1 e2 HE HE2 HS
           go_wp2_with (go_at_call 56; refine (compare_any _ _ _).mono ?_; rintro e w' ⟨rfl, rfl⟩)
           go_ret
           exact ⟨by rw [HE3.out]; rfl, hV⟩)
    · have HE := Lib.hid (HS.out.trans (if_neg h1))
      have hz : (x.wt == 0) = false := by simp; omega
      have hz2 : (y.wt == 0) = false := by simp; omega
      have q1 : 0 ≤ x.work * y.wt := Int.mul_nonneg p0 w0'
      have q2 : x.work * y.wt ≤ 10000 * 1000 := Int.mul_le_mul p1 w1' w0' (by omega)
      have q3 : 0 ≤ y.work * x.wt := Int.mul_nonneg p0' w0
      have q4 : y.work * x.wt ≤ 10000 * 1000 := Int.mul_le_mul p1' w1 w0 (by omega)
      clear h1 HS
      go_wp2_with (go_at_call 56; refine (compare_any _ _ _).mono ?_; rintro e w' ⟨rfl, rfl⟩)
      go_ret
      exact ⟨by rw [HE.out]; rfl, hV⟩
  · go_simp
    refine hK.out _ _ (hHeld.alloc (by simp) _) (fun hH2 => ?_)
    clear hK K hHeld
    refine wpAnyH_ready (rs := [8]) (by kernel_rfl) (by simp) (AllReadyH.cons rfl (fun K hK => ?_) AllReadyH.nil)
    go_simp
    refine hK.out _ _ (hH2.alloc (by simp) _) (fun hH3 => ?_)
    clear hK K hH2
    have n5 : Blk ((W.drew.alloc (.cells Z5 43)).alloc (.cells Z5 43)) W.heap.size 43 Z5 := (Blk.new W.drew 43 Z5).alloc _
    have n6 : Blk ((W.drew.alloc (.cells Z5 43)).alloc (.cells Z5 43)) (W.heap.size + 1) 43 Z5 := by
      have h := Blk.new (W.drew.alloc (.cells Z5 43)) 43 Z5
      rwa [World.size_alloc] at h
    have hne : (W.heap.size + 1) ≠ W.heap.size := by omega
    refine forget (F := fun V => Blk V (W.heap.size + 1) 43 Z5 ∧ Blk V W.heap.size 43 Z5 ∧ Below W.heap.size W V) ⟨n6, n5, hH3⟩ ?_
    clear n5 n6 hH3
    rintro V ⟨k5, k6, hV⟩
    have c5 := k5.cell
    have f5 := k5.frozen
    refine wpAnyH_ready (rs := [10]) (by kernel_rfl) (by simp) (AllReadyH.cons rfl (fun K hK => ?_) AllReadyH.nil)
    go_simp
    have s5 := ((((k5.set_ 0 (.int .i64 x.work)).set_ 1 (.int .i64 x.rel)).set_ 2 (.int .i64 x.due)).set_ 3 (.int .i64 x.wt)).set_ 4 (.slice BX mX cX)
    have s6 := ((((k6.far (p := ⟨(W.heap.size + 1), 0, none⟩) hne.symm (.int .i64 x.work)).far (p := ⟨(W.heap.size + 1), 1, none⟩) hne.symm (.int .i64 x.rel)).far (p := ⟨(W.heap.size + 1), 2, none⟩) hne.symm (.int .i64 x.due)).far (p := ⟨(W.heap.size + 1), 3, none⟩) hne.symm (.int .i64 x.wt)).far (p := ⟨(W.heap.size + 1), 4, none⟩) hne.symm (.slice BX mX cX)
    have hV2 := (((((hV.setCell (p := ⟨(W.heap.size + 1), 0, none⟩) (by simp) (.int .i64 x.work)).setCell (p := ⟨(W.heap.size + 1), 1, none⟩) (by simp) (.int .i64 x.rel)).setCell (p := ⟨(W.heap.size + 1), 2, none⟩) (by simp) (.int .i64 x.due)).setCell (p := ⟨(W.heap.size + 1), 3, none⟩) (by simp) (.int .i64 x.wt)).setCell (p := ⟨(W.heap.size + 1), 4, none⟩) (by simp) (.slice BX mX cX))
    refine hK.out _ _ hV2 (fun _ => ?_)
    clear hK K c5 f5 k5 k6 hV
    refine forget (F := fun V => Blk V (W.heap.size + 1) 43 (x.cells (.slice BX mX cX)) ∧ Blk V W.heap.size 43 Z5 ∧ Below W.heap.size W V) ⟨s5, s6, hV2⟩ ?_
    clear s5 s6 hV2
    rintro V ⟨k5, k6, hV⟩
    have c6 := k6.cell
    have f6 := k6.frozen
    refine wpAnyH_ready (rs := [11]) (by kernel_rfl) (by simp) (AllReadyH.cons rfl (fun K hK => ?_) AllReadyH.nil)
    go_simp
    have hx6 := ((((k6.set_ 0 (.int .i64 y.work)).set_ 1 (.int .i64 y.rel)).set_ 2 (.int .i64 y.due)).set_ 3 (.int .i64 y.wt)).set_ 4 (.slice BY mY cY)
    have hx5 := ((((k5.far (p := ⟨W.heap.size, 0, none⟩) hne (.int .i64 y.work)).far (p := ⟨W.heap.size, 1, none⟩) hne (.int .i64 y.rel)).far (p := ⟨W.heap.size, 2, none⟩) hne (.int .i64 y.due)).far (p := ⟨W.heap.size, 3, none⟩) hne (.int .i64 y.wt)).far (p := ⟨W.heap.size, 4, none⟩) hne (.slice BY mY cY)
    have hfin := (((((hV.setCell (p := ⟨W.heap.size, 0, none⟩) (by simp) (.int .i64 y.work)).setCell (p := ⟨W.heap.size, 1, none⟩) (by simp) (.int .i64 y.rel)).setCell (p := ⟨W.heap.size, 2, none⟩) (by simp) (.int .i64 y.due)).setCell (p := ⟨W.heap.size, 3, none⟩) (by simp) (.int .i64 y.wt)).setCell (p := ⟨W.heap.size, 4, none⟩) (by simp) (.slice BY mY cY))
    refine hK.out _ _ hfin (fun _ => ?_)
    refine wpAnyH_done (by kernel_rfl) ?_ _
    clear hK K c6 f6 k5 k6 hV
    refine forget (F := fun V => Blk V (W.heap.size + 1) 43 (x.cells (.slice BX mX cX)) ∧ Blk V W.heap.size 43 (y.cells (.slice BY mY cY)) ∧ Below W.heap.size W V) ⟨hx5, hx6, hfin⟩ ?_
    clear hx5 hx6 hfin
    rintro V ⟨v5, v6, hV⟩
    have c5 : ∀ o, V.cell? ⟨(W.heap.size + 1), o, none⟩ = (#[.int .i64 x.work, .int .i64 x.rel, .int .i64 x.due, .int .i64 x.wt, .slice BX mX cX] : Array Value)[o]? := v5.cell
    have c6 : ∀ o, V.cell? ⟨W.heap.size, o, none⟩ = (#[.int .i64 y.work, .int .i64 y.rel, .int .i64 y.due, .int .i64 y.wt, .slice BY mY cY] : Array Value)[o]? := v6.cell
    have z5 := v5.lt
    have z6 := v6.lt
    obtain ⟨p0, p1, w0, w1⟩ := tx
    obtain ⟨p0', p1', w0', w1'⟩ := ty
    clear v5 v6
    by_cases h1 : x.wt = 0 ∨ y.wt = 0
    · have HE := Lib.hid (HS.out.trans (if_pos h1))
      have hz : (x.wt == 0) = true ∨ (x.wt == 0) = false ∧ (y.wt == 0) = true := by
        by_cases hh : x.wt = 0
        · exact .inl (by simp [hh])
        · exact .inr ⟨by simp [hh], by simp [h1.resolve_left hh]⟩
      have m1 : (x.wt < 1 ∨ x.wt = 1 ∨ 1 < x.wt) := by omega
      have m2 : (y.wt < 1 ∨ y.wt = 1 ∨ 1 < y.wt) := by omega
      clear h1
      rcases hz with hz | ⟨hz, hz2⟩ <;> rcases m1 with m1 | m1 | m1 <;> rcases m2 with m2 | m2 | m2
      all_goals first
        | (exfalso; simp at hz; omega)
        | (exfalso; simp at hz2; omega)
        | (have e1 : min 1 x.wt = (if x.wt < 1 then x.wt else 1) := by split <;> omega
           have e2 : min 1 y.wt = (if y.wt < 1 then y.wt else 1) := by split <;> omega
           first | rw [if_pos m1] at e1 | rw [if_neg (by omega)] at e1
           first | rw [if_pos m2] at e2 | rw [if_neg (by omega)] at e2
           have HE2 := HE.out
           rw [e1, e2] at HE2
           have HE3 := Lib.hid HE2
           clear e1 e2 HE HE2 HS
           go_wp2_with (go_at_call 56; refine (compare_any _ _ _).mono ?_; rintro e w' ⟨rfl, rfl⟩)
           go_ret
           exact ⟨by rw [HE3.out]; rfl, hV⟩)
    · have HE := Lib.hid (HS.out.trans (if_neg h1))
      have hz : (x.wt == 0) = false := by simp; omega
      have hz2 : (y.wt == 0) = false := by simp; omega
      have q1 : 0 ≤ x.work * y.wt := Int.mul_nonneg p0 w0'
      have q2 : x.work * y.wt ≤ 10000 * 1000 := Int.mul_le_mul p1 w1' w0' (by omega)
      have q3 : 0 ≤ y.work * x.wt := Int.mul_nonneg p0' w0
      have q4 : y.work * x.wt ≤ 10000 * 1000 := Int.mul_le_mul p1' w1 w0 (by omega)
      clear h1 HS
      go_wp2_with (go_at_call 56; refine (compare_any _ _ _).mono ?_; rintro e w' ⟨rfl, rfl⟩)
      go_ret
      exact ⟨by rw [HE.out]; rfl, hV⟩
end Go.Proofs.Ytnfcigbiebbjdaa
namespace Go.Proofs.Ytnfcigbiebbjdaa
open Go.RowKit

theorem JobsH.get {w : World} {A : Option Addr} {n i : Nat} {l : List Jb} (h : JobsH w A n l) (hi : i < n) : ∃ g, A = some ⟨g, 0, none⟩ ∧ g < w.heap.size ∧ l[i]? = some (jat l i) ∧ JobAt w g (i * 5) (jat l i) := by
  obtain ⟨g, j, e, hg, hj, ha⟩ := h.at_ hi
  have := jat_get hj
  exact ⟨g, e, hg, by rw [this]; exact hj, by rw [this]; exact ha⟩
set_option maxHeartbeats 1000000 in
theorem weighted_any (A O : Option Addr) (n c m e : Nat) (l : List Jb) (o : List Int) (W : World) (rA : JobsH W A n l) (rO : RowH W O m o) (ht : ∀ (k : Nat) (x : Jb), l[k]? = some x → Tame x) (ho : ∀ x ∈ o, 0 ≤ x ∧ x < (n : Int)) (hm : m ≤ 64) :
    Calls Try.prog 57 #[.slice A n c, .slice O m e] W fun e w' => e = .returned (.int .i64 (wsum l 0 o)) ∧ W = w' := by
  have HT := Lib.hid ht
  have HO := Lib.hid ho
  have HL0 : Hid (wsum l 0 o = wsumA l 0 0 (o.drop 0)) := by show _ = _; rw [wsumA_eq, List.drop_zero]; omega
  clear ht ho
  go_enter Try.func57, Try.ntmps57
  go_wp2_with fail
  go_loopw [5, 6, 11] (fun a b i wr => ∃ (k : Nat) (t u : Int), k ≤ m ∧ i = .int .i64 k ∧ a = .int .i64 t ∧ b = .int .i64 u ∧ 0 ≤ t ∧ t ≤ 10000 * k ∧ 0 ≤ u ∧ u ≤ 640000000 * k ∧ Hid (wsum l 0 o = wsumA l t u (o.drop k)) ∧ W = wr) (fun _ _ i _ => m - (intOf i).toNat)
  case atStart => exact ⟨0, 0, 0, Nat.zero_le _, rfl, rfl, rfl, Int.le_refl _, by omega, Int.le_refl _, by omega, HL0, rfl⟩
  case round =>
    obtain ⟨k, t, u, hk, rfl, rfl, rfl, t0, t1, u0, u1, hL, rfl⟩ := hrel
    by_cases hlt : k < m
    · obtain ⟨go, rfl, hgo, co⟩ := rO.at_ hlt
      have hol : o[k]? = some (o.getD k 0) := getD_get (by rw [rO.1]; exact hlt)
      have hx := HO.out _ (List.mem_of_getElem? hol)
      have hdr := Lib.hid (drop_step hol)
      clear hol
      generalize o.getD k 0 = x at *
      obtain ⟨x0, x1⟩ := hx
      obtain ⟨i, rfl⟩ := Int.eq_ofNat_of_zero_le x0
      have hi : i < n := by omega
      obtain ⟨g, rfl, hg, hj, c0, _, _, c3, _⟩ := rA.get hi
      have tx := HT.out i _ hj
      have HLs : Hid (wsumA l t u (o.drop k) = wsumA l (t + (jat l i).work) (u + (t + (jat l i).work) * (jat l i).wt) (o.drop (k + 1))) := by
        show _ = _
        rw [hdr.out]
        rfl
      clear hj
      obtain ⟨p0, p1, w0, w1⟩ := tx
      generalize (jat l i).work = p at *
      generalize (jat l i).wt = q at *
      have m1 : 0 ≤ (t + p) * q := Int.mul_nonneg (by omega) w0
      have m2 : (t + p) * q ≤ 640000 * 1000 := Int.mul_le_mul (by omega) w1 w0 (by omega)
      have hbt : decide ((k : Int) < (m : Int)) = true := by simp; omega
      have hbt2 : (k : Int) < (m : Int) := by omega
      clear hdr x0 x1
      go_wp2_with fail
      go_roundw
      case rel => exact ⟨k + 1, t + p, u + (t + p) * q, by omega, by go_num, rfl, rfl, by omega, by omega, by omega, by omega, hL.out.trans HLs.out, trivial⟩
      case measure => simp [intOf]; omega
    · obtain rfl : k = m := by omega
      have hbt : decide ((k : Int) < (k : Int)) = false := by simp
      have he : o.drop k = [] := List.drop_of_length_le (by rw [rO.1]; exact Nat.le_refl _)
      have HE : Hid (wsum l 0 o = u) := by
        show _ = _
        rw [hL.out, he]
        rfl
      clear he
      go_wp2_with fail
      go_ret
      exact ⟨by rw [HE.out]; rfl, rfl⟩

theorem JobsH.past {w w' : World} {A : Option Addr} {n : Nat} {l : List Jb} {r : Nat} (h : JobsH w A n l) (hb : w.grownBy w' (some r)) (hr : w.heap.size ≤ r) : JobsH w' A n l :=
  h.later (below_of_only (B := w.heap.size) hb hr (Nat.le_refl _))
/-- What Smith returns. -/
def SmithR (w : World) (l : List Jb) (n : Nat) (e : Ending) (w' : World) : Prop :=
  ∃ (R : Nat) (o : List Int), e = .returned (.tuple #[.slice (some ⟨R, 0, none⟩) n n, .int .i64 (wsum l 0 o), .int .i64 0]) ∧ o.Perm (nums n) ∧ o.Pairwise (leOf (smithC l)) ∧ RowH w' (some ⟨R, 0, none⟩) n o ∧ Below w.heap.size w w'
/-- A world that is later than one ahead of the row, and in which only the row and new blocks have been turned. -/
theorem smith_cmp {w1 w0 : World} {A : Option Addr} {n c b R : Nat} {l : List Jb} (h2 : Blk w1 b 22 #[.slice A n c]) (rA : JobsH w1 A n l) (ht : ∀ (k : Nat) (x : Jb), l[k]? = some x → Tame x) (hb : Below w1.heap.size w1 w0) (hR : w1.heap.size ≤ R) :
    Cmp 55 #[.pointer (some ⟨b, 0, none⟩)] (smithC l) w0 R (fun x => 0 ≤ x ∧ x < (n : Int)) where
  enters := enters_of Try.func55 (by kernel_rfl) rfl
  tells := by
    rintro W hW x y ⟨x0, x1⟩ ⟨y0, y1⟩
    obtain ⟨i, rfl⟩ := Int.eq_ofNat_of_zero_le x0
    obtain ⟨j, rfl⟩ := Int.eq_ofNat_of_zero_le y0
    have hW' : Below w1.heap.size w1 W := hb.trans (below_of_only hW hR hb.size)
    exact smithCmp_any A n c b i j l W (h2.later hW') (rA.later hW') (by omega) (by omega) ht

set_option maxHeartbeats 1000000 in
theorem Smith_yes (A : Option Addr) (n c : Nat) (l : List Jb) (w : World) (rA : JobsH w A n l) (hv : validB l = true) : Calls Try.prog 19 #[.slice A n c] w (SmithR w l n) := by
  have hn : n ≤ 64 := by
    have h := hv
    unfold validB at h
    simp only [Bool.and_eq_true, decide_eq_true_eq] at h
    rw [← rA.1]; exact h.1
  have HT : Hid (∀ (k : Nat) (x : Jb), l[k]? = some x → Tame x) := fun k x h => validB_tame hv h
  have HF := Lib.hid (validB_fair hv)
  have hw2 : Below w.heap.size w (w.alloc (.cells #[.slice A n c] 22)) := (Below.refl _ _).alloc (Nat.le_refl _) _
  have k2 := Blk.new w 22 #[.slice A n c]
  have M1 := Lib.hid (Check_yes A n c l _ (rA.later hw2) hv)
  clear hv
  go_enter Try.func19, Try.ntmps19
  have x0 := k2.cell
  have y0 := k2.lt
  go_wp2_with fail
  refine M1.out.mono ?_
  rintro e w1 ⟨rfl, hb1⟩
  have k3 := k2.later hb1
  have c2 := k3.cell
  have z2 := k3.lt
  have hw1 := hw2.trans (hb1.mono (by simp))
  clear x0 y0
  go_wp2_with fail
  refine (numbers_any n w1 (by omega)).mono ?_
  rintro e w2 ⟨rfl, hB, hb2⟩
  have q2 := k3.later hb2
  obtain ⟨R, hR⟩ : ∃ R, R = w1.heap.size := ⟨_, rfl⟩
  rw [← hR] at hB ⊢
  have C := smith_cmp (R := R) (w0 := w2) k3 (rA.later hw1) HT.out hb2 (by omega)
  have M2 := Lib.hid (sort_any C (smith_swo l HF.out).tot (nums n) n w2 (fun x hx => mem_nums.1 hx) (nums_agrees _ n) hB (World.grownBy.refl _ _) n (nums_length n).symm (by omega))
  have hsz := hw1.size
  have hRw : w.heap.size ≤ R := by omega
  have hbR : w.heap.size ≠ R := by omega
  have HR := Lib.hid hR
  have x2 := q2.cell
  have y2 := q2.lt
  clear c2 z2 hB C hR
  go_wp2_with fail
  refine M2.out.mono ?_
  rintro e w3 ⟨rfl, o, hP, hS, hB3, hg3⟩
  have HP := Lib.hid hP
  have HS := Lib.hid hS
  have p2 := q2.grown hg3 (by simp; exact hbR)
  have hw2' := hw1.trans (hb2.mono hsz)
  have hfin : Below w.heap.size w w3 := hw2'.trans (below_of_only hg3 hRw hw2'.size)
  have rO := RowH.of_row (n := n) hB3 (by rw [HP.out.length_eq, nums_length])
  have M3 := Lib.hid (weighted_any A (some ⟨R, 0, none⟩) n c n n l o w3 (rA.later hfin) rO HT.out (fun x hx => mem_nums.1 (HP.out.mem_iff.1 hx)) hn)
  have v2 := p2.cell
  have u2 := p2.lt
  clear x2 y2 hP hS M2
  go_wp2_with fail
  refine M3.out.mono ?_
  rintro e w' ⟨rfl, rfl⟩
  go_wp2_with fail
  (try simp only [Exit.inBlock, Exit.then]); refine bodyPost_ret (results_tmp3 rfl _ _ _) rfl ?_
  exact ⟨R, o, rfl, HP.out, HS.out, rO, hfin⟩
end Go.Proofs.Ytnfcigbiebbjdaa
namespace Go.Proofs.Ytnfcigbiebbjdaa
open Go.RowKit

set_option maxHeartbeats 400000 in
theorem same_true (A B : Option Addr) (n c d : Nat) (l : List Int) (w : World) (ha : RowH w A n l) (hb : RowH w B n l) (hn : n ≤ 1000) :
    Calls Try.prog 30 #[.slice A n c, .slice B n d] w fun e w' => e = .returned (.bool true) ∧ Below w.heap.size w w' := by
  go_enter Try.func30, Try.ntmps30
  go_wp2_with fail
  go_loopw [5] (fun i wr => ∃ k : Nat, k ≤ n ∧ i = .int .i64 k ∧ Below w.heap.size w wr) (fun i _ => n - (intOf i).toNat)
  case atStart => exact ⟨0, by omega, rfl, Below.refl _ _⟩
  case round =>
    obtain ⟨k, hk, rfl, hbr⟩ := hrel
    by_cases hlt : k < n
    · obtain ⟨g, rfl, hg, hc⟩ := (ha.later hbr).at_ hlt
      obtain ⟨g2, rfl, hg2, hc2⟩ := (hb.later hbr).at_ hlt
      have hx := later_cell (w := wr)
      go_wp2_with fail
      refine wp_region_later (by kernel_rfl) (by kernel_rfl) ?_
      repeat (go_big_quiet_step (fail))
      refine wpQuiet_nil ?_
      rintro w2 ⟨⟨_, hb2⟩, rfl⟩
      clear hx hc hc2
      go_wp2_with fail
      go_roundw
      case rel => exact ⟨k + 1, by omega, by go_num, hbr.trans (hb2.mono hbr.size)⟩
      case measure => simp [intOf]; omega
    · have hkn : k = n := by omega
      clear hk
      subst hkn
      go_wp2_with fail
      go_ret
      exact ⟨rfl, hbr⟩

theorem perm_two {o : List Int} (h : o.Perm (nums 2)) : o = [0, 1] ∨ o = [1, 0] := by
  have hl := h.length_eq
  have hd := (isOrd_of_perm h).2
  match o, hl, hd with
  | [a, b], _, ⟨h1, h2⟩ =>
    have ha := h2 a (by simp)
    have hb := h2 b (by simp)
    have hne : a ≠ b := fun e => by subst e; simp at h1
    have : (a = 0 ∧ b = 1) ∨ (a = 1 ∧ b = 0) := by omega
    rcases this with ⟨rfl, rfl⟩ | ⟨rfl, rfl⟩
    · exact .inl rfl
    · exact .inr rfl
def LJ : List Jb := [⟨3, 0, 0, 1, []⟩, ⟨1, 0, 0, 1, []⟩]
theorem lives_smith {o : List Int} (h : o.Perm (nums 2)) (hs : o.Pairwise (leOf (smithC LJ))) : o = [1, 0] := by
  rcases perm_two h with rfl | rfl
  · exfalso
    have := (List.pairwise_cons.1 hs).1 1 (by simp)
    exact this.1 (by decide)
  · rfl
theorem lives_john {o : List Int} (h : o.Perm (nums 2)) (hs : o.Pairwise (leOf (johnC [3, 1] [2, 4]))) : o = [1, 0] := by
  rcases perm_two h with rfl | rfl
  · exfalso
    have := (List.pairwise_cons.1 hs).1 1 (by simp)
    exact this.1 (by decide)
  · rfl
theorem small_lit {l : List Int} (h : ∀ x ∈ l, 0 ≤ x ∧ x ≤ 10000) : Small l := fun i => by
  unfold iat
  rw [List.getD_eq_getElem?_getD]
  cases hx : l[i.toNat]? with
  | none => exact ⟨Int.le_refl _, by decide⟩
  | some x => exact h x (List.mem_of_getElem? hx)
theorem jobs_lit (w : World) : JobsH (w.alloc (.cells #[.int .i64 3, .int .i64 0, .int .i64 0, .int .i64 1, .slice none 0 0, .int .i64 1, .int .i64 0, .int .i64 0, .int .i64 1, .slice none 0 0] 43)) (some ⟨w.heap.size, 0, none⟩) 2 LJ := by
  have h := (Blk.new w 43 #[.int .i64 3, .int .i64 0, .int .i64 0, .int .i64 1, .slice none 0 0, .int .i64 1, .int .i64 0, .int .i64 0, .int .i64 1, .slice none 0 0])
  refine ⟨rfl, fun _ => ⟨_, rfl, h.lt, fun k j hk => ?_⟩⟩
  match k, hk with
  | 0, hk =>
    obtain rfl : (⟨3, 0, 0, 1, []⟩ : Jb) = j := by simpa [LJ] using hk
    exact ⟨h.cell 0, h.cell 1, h.cell 2, h.cell 3, none, 0, 0, h.cell 4, RowH.nil _ _⟩
  | 1, hk =>
    obtain rfl : (⟨1, 0, 0, 1, []⟩ : Jb) = j := by simpa [LJ] using hk
    exact ⟨h.cell 5, h.cell 6, h.cell 7, h.cell 8, none, 0, 0, h.cell 9, RowH.nil _ _⟩
  | k + 2, hk => simp [LJ] at hk
theorem row_lit (w : World) (l : List Int) (n : Nat) (hn : l.length = n) : RowH (w.alloc (.cells (rowc l) 3)) (some ⟨w.heap.size, 0, none⟩) n l := RowH.of_row (R := w.heap.size) (l := l) (RowB.of (Blk.new w 3 (rowc l))) hn

set_option maxHeartbeats 2000000 in
theorem lives_any (w : World) : Calls Try.prog 18 #[] w fun e w' => e = .returned (.bool true) ∧ Below w.heap.size w w' := by
  have hb0 : Below w.heap.size w (w.alloc (.cells #[.int .i64 3, .int .i64 0, .int .i64 0, .int .i64 1, .slice none 0 0, .int .i64 1, .int .i64 0, .int .i64 0, .int .i64 1, .slice none 0 0] 43)) := (Below.refl _ _).alloc (Nat.le_refl _) _
  have M1 := Lib.hid (Smith_yes (some ⟨w.heap.size, 0, none⟩) 2 2 LJ _ (jobs_lit w) (by decide))
  go_enter Try.func18, Try.ntmps18
  go_wp2_with fail
  refine M1.out.mono ?_
  rintro e w1 ⟨R, o, rfl, hP, hS, hR, hb1⟩
  obtain rfl := lives_smith hP hS
  have e5 : wsum LJ 0 [1, 0] = 5 := by decide
  rw [e5]
  have hw1 := hb0.trans (hb1.mono (by simp))
  clear M1 hP hS e5 hb1 hb0
  have hz := hw1.size
  have hb2 : Below w.heap.size w ((w1.alloc (.cells (rowc [3, 1]) 3)).alloc (.cells (rowc [2, 4]) 3)) := (hw1.alloc hz _).alloc (by simp; omega) _
  have r2 := (row_lit w1 [3, 1] 2 rfl).later ((Below.refl _ _).alloc (Nat.le_refl _) (.cells (rowc [2, 4]) 3))
  have r3 := row_lit (w1.alloc (.cells (rowc [3, 1]) 3)) [2, 4] 2 rfl
  rw [World.size_alloc] at r3
  have M2 := Lib.hid (Johnson_yes (some ⟨w1.heap.size, 0, none⟩) (some ⟨w1.heap.size + 1, 0, none⟩) 2 2 2 [3, 1] [2, 4] _ r2 r3 (small_lit (by decide)) (small_lit (by decide)) (by omega))
  have hRl := hR.later (((Below.refl _ _).alloc (Nat.le_refl _) (.cells (rowc [3, 1]) 3)).alloc (by simp) (.cells (rowc [2, 4]) 3))
  clear r2 r3
  go_wp2_with fail
  refine M2.out.mono ?_
  rintro e w2 ⟨R', o', rfl, hP, hS, hR', hb3⟩
  obtain rfl := lives_john hP hS
  have e7 : lenF [3, 1] [2, 4] 0 0 [1, 0] = 7 := by decide
  rw [e7]
  have hw2 := hb2.trans (hb3.mono (by simp; omega))
  have hR2 := hRl.later hb3
  clear M2 hP hS e7 hb3 hb2 hR hRl
  have hb4 : Below w2.heap.size w2 (w2.alloc (.cells (rowc [1, 0]) 3)) := (Below.refl _ _).alloc (Nat.le_refl _) _
  have S1 := Lib.hid (same_true (some ⟨R, 0, none⟩) (some ⟨w2.heap.size, 0, none⟩) 2 2 2 [1, 0] (w2.alloc (.cells (rowc [1, 0]) 3)) (hR2.later hb4) (row_lit w2 [1, 0] 2 rfl) (by omega))
  have S2 := fun w3 (h : Below w2.heap.size w2 w3) => Lib.hid (same_true (some ⟨R', 0, none⟩) (some ⟨w3.heap.size, 0, none⟩) 2 2 2 [1, 0] (w3.alloc (.cells (rowc [1, 0]) 3)) ((hR'.later h).later ((Below.refl _ _).alloc (Nat.le_refl _) _)) (row_lit w3 [1, 0] 2 rfl) (by omega))
  have S3 := Lib.hid S2
  clear S2
  go_wp2_with fail
  refine S1.out.mono ?_
  rintro e w3 ⟨rfl, hb5⟩
  have hb6 := hb4.trans (hb5.mono (by simp))
  have S4 := Lib.hid (S3.out w3 hb6).out
  clear S1 S3
  go_wp2_with fail
  refine S4.out.mono ?_
  rintro e w4 ⟨rfl, hb7⟩
  have hw3 := hw2.trans (hb6.mono hw2.size)
  have hw4 := hw3.alloc hw3.size (.cells (rowc [1, 0]) 3)
  have hfin := hw4.trans (hb7.mono hw4.size)
  go_wp2_with fail
  go_ret
  exact ⟨rfl, hfin⟩
end Go.Proofs.Ytnfcigbiebbjdaa
namespace Go.Proofs.Ytnfcigbiebbjdaa
open Go.RowKit

theorem fold_eq (v n : Int) (h1 : 1 ≤ n) (h2 : n ≤ 4000000) : (wrap64 (v.tmod n + n)).tmod n = v % n := by
  have a := Int.tmod_lt_of_pos v (show 0 < n by omega)
  have b := Int.lt_tmod_of_pos v (show 0 < n by omega)
  rw [IntWalk.wrap64_in _ ⟨by omega, by omega⟩, Int.tmod_eq_emod_of_nonneg (by omega), Int.add_emod_right]
  have c := Int.tmod_def v n
  rw [c, Int.sub_mul_emod_self_left]
theorem ret_int {k : IntKind} {a b : Int} (h : a = b) : Ending.returned (.int k a) = .returned (.int k b) := by rw [h]
theorem fold_any (v n : Int) (w : World) (h1 : 1 ≤ n) (h2 : n ≤ 4000000) :
    Calls Try.prog 24 #[.int .i64 v, .int .i64 n] w fun e w' => e = .returned (.int .i64 (v % n)) ∧ w = w' := by
  go_enter Try.func24, Try.ntmps24
  go_wp2
  go_ret
  exact ⟨ret_int (fold_eq v n h1 h2), rfl⟩
theorem in_yes (v a b : Int) (w : World) (h1 : a ≤ v) (h2 : v ≤ b) : Calls Try.prog 52 #[.int .i64 v, .int .i64 a, .int .i64 b] w fun e w' => e = .returned (.bool true) ∧ w = w' := by
  have d1 : decide (a ≤ v) = true := by simpa using h1
  have d2 : decide (v ≤ b) = true := by simpa using h2
  go_enter Try.func52, Try.ntmps52
  go_wp2
  go_ret
  exact ⟨rfl, rfl⟩

set_option maxHeartbeats 1000000 in
theorem Order_yes (A : Option Addr) (n c : Nat) (o : List Int) (w : World) (rA : RowH w A n o) (ho : isOrd n o) (hn : n ≤ 1000) :
    Calls Try.prog 20 #[.slice A n c, .int .i64 n] w fun e w' => e = .returned (.bool true) ∧ Below w.heap.size w w' := by
  have HO := Lib.hid ho
  have d0 : ((n : Int) != (n : Int)) = false := by simp
  clear ho
  go_enter Try.func20, Try.ntmps20
  go_wp2_with fail
  go_loopw [5] (fun i wr => ∃ k : Nat, k ≤ n ∧ i = .int .i64 k ∧ Below w.heap.size w wr) (fun i _ => n - (intOf i).toNat)
  case atStart => exact ⟨0, Nat.zero_le _, rfl, Below.refl _ _⟩
  case round =>
    obtain ⟨k, hk, rfl, hb⟩ := hrel
    by_cases hlt : k < n
    · obtain ⟨g, rfl, hg, hc⟩ := (rA.later hb).at_ hlt
      have hok : o[k]? = some (o.getD k 0) := getD_get (by rw [rA.1]; exact hlt)
      have hx := HO.out.2.2 _ (List.mem_of_getElem? hok)
      have hbt : decide ((k : Int) < (n : Int)) = true := by simp; omega
      have hbt2 : (k : Int) < (n : Int) := by omega
      have HK := Lib.hid hok
      clear hok
      generalize o.getD k 0 = x at *
      have M := fun w => Lib.hid (in_yes x 0 ((n : Int) - 1) w hx.1 (by omega))
      have HM := Lib.hid M
      clear M
      go_wp2_with fail
      refine (HM.out _).out.mono ?_
      rintro e w' ⟨rfl, rfl⟩
      go_wp2_with fail
      go_loopw [6] (fun i wr => ∃ j : Nat, j ≤ k ∧ i = .int .i64 j ∧ Below w.heap.size w wr) (fun i _ => k - (intOf i).toNat)
      case atStart => exact ⟨0, Nat.zero_le _, rfl, hb⟩
      case round =>
        clear hc hg hb
        obtain ⟨j, hj, rfl, hb⟩ := hrel
        by_cases hjk : j < k
        · have hbj : decide ((j : Int) < (k : Int)) = true := by simp; omega
          have hbj2 : (j : Int) < (k : Int) := by omega
          obtain ⟨g', e1, hg, hc⟩ := (rA.later hb).at_ hlt
          cases e1
          obtain ⟨g', e1, _, hd⟩ := (rA.later hb).at_ (show j < n by omega)
          cases e1
          have hoj : o[j]? = some (o.getD j 0) := getD_get (by rw [rA.1]; omega)
          have hxx : o.getD k 0 = x := by rw [List.getD_eq_getElem?_getD, HK.out]; rfl
          rw [hxx] at hc
          have hne : o.getD j 0 ≠ x := fun e => by
            rw [e] at hoj
            have h1 := HK.out
            have hd := HO.out.2.1
            have a1 := (List.getElem?_eq_some_iff.1 hoj)
            have a2 := (List.getElem?_eq_some_iff.1 h1)
            obtain ⟨p1, q1⟩ := a1
            obtain ⟨p2, q2⟩ := a2
            have := (List.pairwise_iff_getElem.1 hd) j k p1 p2 hjk
            exact this (q1.trans q2.symm)
          clear hoj hxx
          generalize o.getD j 0 = y at *
          have hbe : (y == x) = false := by simpa using hne
          have hxl := later_cell (w := wr)
          go_wp2_with fail
          refine wp_region_later (by kernel_rfl) (by kernel_rfl) ?_
          repeat (go_big_quiet_step (fail))
          refine wpQuiet_nil ?_
          rintro w2 ⟨⟨_, hb2⟩, rfl⟩
          clear hxl hc hd
          go_wp2_with fail
          go_roundw
          case rel => exact ⟨j + 1, by omega, by go_num, hb.trans (hb2.mono hb.size)⟩
          case measure => simp [intOf]; omega
        · obtain rfl : j = k := by omega
          have hbj : decide ((j : Int) < (j : Int)) = false := by simp
          go_wp2_with fail
          go_roundw
          case rel => exact ⟨j + 1, by omega, by go_num, hb⟩
          case measure => simp [intOf]; omega
    · obtain rfl : k = n := by omega
      have hbt : decide ((k : Int) < (k : Int)) = false := by simp
      go_wp2_with fail
      go_ret
      exact ⟨rfl, hb⟩
end Go.Proofs.Ytnfcigbiebbjdaa
namespace Go.Proofs.Ytnfcigbiebbjdaa
open Go.RowKit

def MixR (w : World) (n : Nat) (l : List Int) (e : Ending) (w' : World) : Prop := ∃ A c o, e = .returned (.slice A n c) ∧ o.Perm l ∧ RowH w' A n o ∧ Below w.heap.size w w'
theorem own_later {w w' : World} {base E s : Nat} {v : Value} {n : Nat} {xs : List Value} (h : w.ownsRow base E s v n xs) (hb : Below w.heap.size w w') : w'.ownsRow base E s v n xs :=
  h.kept (only_of_below hb none) (by cases hv : v.ownBlock with | none => exact .inl rfl | some g => exact .inr (by simp))
theorem getD_set_perm {o : List Int} {a b : Nat} (ha : a < o.length) (hb : b < o.length) : ((o.set a (o.getD b 0)).set b (o.getD a 0)).Perm o := by
  have e1 : o.getD a 0 = o[a] := by rw [List.getD_eq_getElem?_getD, List.getElem?_eq_getElem ha]; rfl
  have e2 : o.getD b 0 = o[b] := by rw [List.getD_eq_getElem?_getD, List.getElem?_eq_getElem hb]; rfl
  rw [e1, e2]
  exact List.set_set_perm ha hb

set_option maxHeartbeats 4000000 in
theorem mixed_any (A K : Option Addr) (n c m d : Nat) (l p : List Int) (w : World) (rA : RowH w A n l) (rK : RowI w K m p) (hn : n ≤ 1000) :
    Calls Try.prog 22 #[.slice A n c, .slice K m d] w (MixR w n l) := by
  have hb0 : Below w.heap.size w (w.alloc (.cells #[] 3)) := (Below.refl _ _).alloc (Nat.le_refl _) _
  have hmade : (w.alloc (.cells #[] 3)).ownsRow w.heap.size 3 1 (.slice (some ⟨w.heap.size, 0, none⟩) 0 0) 0 (([] : List Int).map (Value.int .i64)) := World.ownsRow_made (base := w.heap.size) (e := 3) (size := 1) w #[] 0 (by simp) (by unfold maxLen; omega) (by simp)
  have rA1 := (rA.later hb0).rowI
  have hlA := rA.1
  go_enter Try.func22, Try.ntmps22
  go_wp2_with (at_builtin; refine app_ints _ rfl (.tmp 9) (.tmp 10) rfl w.heap.size _ 0 [] rfl hmade A n c l rfl rA1 (by omega) (by simp) ?_)
  intro v w1 hown hgr
  have hb1 := hb0.grown hgr (by simp) (fun k hk => (hmade.lt k hk).1)
  obtain ⟨B, c', rfl⟩ := own_slice hown
  clear hmade rA1 hgr hb0 rA
  go_wp2_with fail
  go_loopw [6] (fun i wr => ∃ (k : Nat) (o : List Int), k ≤ 13 ∧ i = .int .i64 k ∧ Hid (o.Perm l) ∧ wr.ownsRow w.heap.size 3 1 (.slice B n c') n (o.map (Value.int .i64)) ∧ Below w.heap.size w wr) (fun i _ => 20 - (intOf i).toNat)
  case atStart => exact ⟨0, l, by omega, rfl, List.Perm.refl _, hown, hb1⟩
  case round =>
    clear hown hb1
    obtain ⟨k, o, hk, rfl, hP, hown, hb⟩ := hrel
    by_cases hc1 : (k : Int) + 1 < (m : Int)
    · have t1 : decide ((k : Int) + 1 < (m : Int)) = true := by simpa using hc1
      by_cases hc2 : (k : Int) < 12
      · have t2 : decide ((k : Int) < 12) = true := by simpa using hc2
        by_cases hc3 : (0 : Int) < (n : Int)
        · have t3 : decide ((n : Int) > 0) = true := by simp; omega
          have hn0 : 0 < n := by omega
          obtain ⟨g, cap, e1, hg1, hg2⟩ := hown.form hn0
          cases e1
          obtain ⟨ad, rfl, had, ck⟩ := (rK.later hb).at_ (show k < m by omega)
          obtain ⟨ad', e1, _, ck1⟩ := (rK.later hb).at_ (show k + 1 < m by omega)
          cases e1
          generalize p.getD k 0 = x at *
          generalize p.getD (k + 1) 0 = y at *
          have q1 := Int.emod_nonneg x (show (n : Int) ≠ 0 by omega)
          have q2 := Int.emod_lt_of_pos x (show (0 : Int) < n by omega)
          have q3 := Int.emod_nonneg y (show (n : Int) ≠ 0 by omega)
          have q4 := Int.emod_lt_of_pos y (show (0 : Int) < n by omega)
          have M1 := fun w => Lib.hid (fold_any x n w (by omega) (by omega))
          have M2 := fun w => Lib.hid (fold_any y n w (by omega) (by omega))
          have HM1 := Lib.hid M1
          have HM2 := Lib.hid M2
          clear M1 M2
          generalize x % (n : Int) = a at *
          generalize y % (n : Int) = b at *
          obtain ⟨a, rfl⟩ := Int.eq_ofNat_of_zero_le q1
          obtain ⟨b, rfl⟩ := Int.eq_ofNat_of_zero_le q3
          have ha : a < n := by omega
          have hbn : b < n := by omega
          clear q1 q2 q3 q4
          have hxl := fun z : Later wr => z.property.cell (p := ad.add k) (by rw [add_block]; exact had)
          have hxl2 := fun z : Later wr => z.property.cell (p := ad.add (k + 1)) (by rw [add_block]; exact had)
          have hk1 : (k : Int) < (m : Int) := by omega
          have hadd : ad.add (k + 1) = ⟨ad.block, ad.off + (k + 1), none⟩ := by unfold Addr.add; rw [if_neg (by omega)]
          rw [hadd] at ck1 hxl2
          clear hadd
          have hol : o.length = n := by rw [hP.out.length_eq, hlA]
          go_wp2_with fail
          refine wp_region_later (by kernel_rfl) (by kernel_rfl) ?_
          iterate 7 (go_big_quiet_step ((go_at_call 24; exact later_same (HM1.out _).out)))
          repeat (go_big_quiet_step ((go_at_call 24; exact later_same (HM2.out _).out)))
          refine wpQuiet_nil ?_
          rintro w2 ⟨⟨_, hb2⟩, rfl⟩
          have hown2 := own_later hown hb2
          have hbw := hb.trans (hb2.mono hb.size)
          clear hxl hxl2 ck ck1 hown hb hb2
          have ca : w2.cell? ⟨g, a, none⟩ = some (.int .i64 (o.getD a 0)) := by
            rw [hown2.cellAt a (by omega), List.getElem?_map, getD_get (by omega)]; rfl
          have cb : w2.cell? ⟨g, b, none⟩ = some (.int .i64 (o.getD b 0)) := by
            rw [hown2.cellAt b (by omega), List.getElem?_map, getD_get (by omega)]; rfl
          have fa := hown2.frozenAt a
          have fb := hown2.frozenAt b
          have HPm := Lib.hid ((getD_set_perm (o := o) (a := a) (b := b) (by omega) (by omega)).trans hP.out)
          have h1 := hown2.stored a (.int .i64 (o.getD b 0))
          have h2 := h1.1.stored b (.int .i64 (o.getD a 0))
          have h3 : ((o.map (Value.int .i64)).set a (.int .i64 (o.getD b 0))).set b (.int .i64 (o.getD a 0)) = ((o.set a (o.getD b 0)).set b (o.getD a 0)).map (Value.int .i64) := by rw [List.map_set, List.map_set]
          rw [h3] at h2
          have H2 := Lib.hid h2.1
          have hfin : Hid (Below w.heap.size w ((w2.setCell ⟨g, a, none⟩ (.int .i64 (o.getD b 0))).setCell ⟨g, b, none⟩ (.int .i64 (o.getD a 0)))) := (hbw.setCell (p := ⟨g, a, none⟩) hg1 _).setCell (p := ⟨g, b, none⟩) hg1 _
          clear h1 h2 h3 hown2
          generalize o.getD a 0 = va at *
          generalize o.getD b 0 = vb at *
          by_cases hab : a = b
          · subst hab
            have hv : va = vb := by rw [ca] at cb; simpa using cb
            subst hv
            clear cb
            go_wp2_with fail
            go_big_region
            all_goals go_wp2_with fail
            go_roundw
            case rel => exact ⟨k + 2, _, by omega, by go_num, HPm, H2.out, hfin.out.drew⟩
            case measure => simp [intOf]; omega
          · have hne : a ≠ b := hab
            go_wp2_with fail
            go_big_region
            all_goals go_wp2_with fail
            go_roundw
            case rel => exact ⟨k + 2, _, by omega, by go_num, HPm, H2.out, hfin.out.drew⟩
            case measure => simp [intOf]; omega
        · have t3 : decide ((n : Int) > 0) = false := by simp; omega
          have t4 : ¬ (0 : Int) < (n : Int) := hc3
          have hR := own_rowH hown
          go_wp2_with fail
          go_ret
          exact ⟨_, _, o, rfl, hP.out, hR, hb⟩
      · have t2 : decide ((k : Int) < 12) = false := by simpa using hc2
        have hR := own_rowH hown
        go_wp2_with fail
        go_ret
        exact ⟨_, _, o, rfl, hP.out, hR, hb⟩
    · have t1 : decide ((k : Int) + 1 < (m : Int)) = false := by simpa using hc1
      have hR := own_rowH hown
      go_wp2_with fail
      go_ret
      exact ⟨_, _, o, rfl, hP.out, hR, hb⟩
end Go.Proofs.Ytnfcigbiebbjdaa
