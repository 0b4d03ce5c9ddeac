/-
  The comparisons of the sweep: by release; by due and number.
  Conditions: the slices start at the heads of blocks.
-/
import Derived.Test.YtnfcigbiebbjdaaSweepm
import Derived.Test.YtnfcigbiebbjdaaOnT
import Derived.Deep.RegionHeld3
namespace Go.Proofs.Ytnfcigbiebbjdaa
open Go.RowKit

/-- The first that is not 0. -/
def orF : List Int → Int
  | [] => 0
  | x :: r => if x = 0 then orF r else x
theorem orF_drop {l : List Int} {k : Nat} {x : Int} (h : l[k]? = some x) : orF (l.drop k) = if x = 0 then orF (l.drop (k + 1)) else x := by
  rw [drop_step h]
  rfl
set_option maxHeartbeats 1000000 in
theorem Or_any (A : Option Addr) (n c : Nat) (l : List Int) (w : World) (rA : RowH w A n l) (hn : n ≤ 1000) :
    Calls Try.prog 66 #[.slice A n c] w fun e w' => e = .returned (.int .i64 (orF l)) ∧ w = w' := by
  have HL := Lib.hid rA.1
  have H0 : Hid (orF l = orF (l.drop 0)) := rfl
  go_enter Try.func66, Try.ntmps66
  go_wp2_with fail
  go_loopw [8] (fun i wr => ∃ k : Nat, k ≤ n ∧ i = .int .i64 k ∧ Hid (orF l = orF (l.drop k)) ∧ w = wr) (fun i _ => n - (intOf i).toNat)
  case atStart => exact ⟨0, Nat.zero_le _, rfl, H0, rfl⟩
  case round =>
    clear H0
    obtain ⟨k, hk, rfl, hO, rfl⟩ := hrel
    by_cases hlt : k < n
    · have hbt : decide ((k : Int) < (n : Int)) = true := by simp; omega
      have hbt2 : (k : Int) < (n : Int) := by omega
      obtain ⟨g, rfl, hg, hc⟩ := rA.at_ hlt
      have hok : l[k]? = some (l.getD k 0) := getD_get (by rw [HL.out]; exact hlt)
      have hst := Lib.hid (orF_drop hok)
      clear hok
      generalize l.getD k 0 = x at *
      by_cases hx : x = 0
      · subst hx
        have u1 : ((0 : Int) != 0) = false := by decide
        have HN : Hid (orF l = orF (l.drop (k + 1))) := by show _ = _; rw [hO.out, hst.out, if_pos rfl]
        clear hO hst
        go_wp2_with fail
        go_roundw
        case rel => exact ⟨k + 1, by omega, by go_num, HN, trivial⟩
        case measure => simp [intOf]; omega
      · have u1 : (x != 0) = true := by simpa using hx
        have HN : Hid (orF l = x) := by show _ = _; rw [hO.out, hst.out, if_neg hx]
        clear hO hst
        go_wp2_with fail
        go_ret
        exact ⟨by rw [HN.out]; rfl, rfl⟩
    · obtain rfl : k = n := by omega
      have hbt : decide ((k : Int) < (k : Int)) = false := by simp
      have HN : Hid (orF l = 0) := by show _ = _; rw [hO.out, List.drop_of_length_le (by rw [HL.out]; exact Nat.le_refl _)]; rfl
      clear hO
      go_wp2_with fail
      go_ret
      exact ⟨by rw [HN.out]; rfl, rfl⟩

set_option maxHeartbeats 1000000 in
theorem relCmp_any (A : Option Addr) (n c b i j : Nat) (l : List Jb) (W : World) (h2 : Blk W b 22 #[.slice A n c]) (rA : JobsH W A n l) (hi : i < n) (hj : j < n) :
    Calls Try.prog 64 #[.int .i64 i, .int .i64 j, .pointer (some ⟨b, 0, none⟩)] W fun e w' => e = .returned (.int .i64 (relC l i j)) ∧ Below W.heap.size W w' := by
  obtain ⟨g, x, rfl, hg, hx, x0, x1, x2, x3, BX, mX, cX, x4, _⟩ := rA.at_ hi
  obtain ⟨g', y, e1, _, hy, y0, y1, y2, y3, BY, mY, cY, y4, _⟩ := rA.at_ hj
  cases e1
  have HS : Hid (relC l i j = cmpI x.rel y.rel) := by
    show _ = _
    unfold relC
    rw [jat_get hx, jat_get hy]
  have l2 := h2.lt
  have c2 := h2.cell
  have hij : (i : Int) < (n : Int) := by omega
  have hjj : (j : Int) < (n : Int) := by omega
  have M := fun w => Lib.hid (compare_any x.rel y.rel w)
  have HM := Lib.hid M
  have hxl := later_cell (w := W)
  clear rA hx hy h2 M
  generalize relC l i j = q at *
  generalize cmpI x.rel y.rel = q2 at *
  go_enter Try.func64, Try.ntmps64
  go_wp2_with fail
  refine wp_region_later (by kernel_rfl) (by kernel_rfl) ?_
  repeat (go_big_quiet_step ((go_at_call 56; exact later_same (HM.out _).out)))
  refine wpQuiet_nil ?_
  rintro w2 ⟨⟨_, hb2⟩, rfl⟩
  go_wp2_with fail
  go_ret
  exact ⟨by rw [HS.out]; rfl, hb2⟩
theorem rel_cmp {w1 w0 : World} {A : Option Addr} {n c b R : Nat} {l : List Jb} (h2 : Blk w1 b 22 #[.slice A n c]) (rA : JobsH w1 A n l) (hb : Below w1.heap.size w1 w0) (hR : w1.heap.size ≤ R) :
    Cmp 64 #[.pointer (some ⟨b, 0, none⟩)] (relC l) w0 R (fun x => 0 ≤ x ∧ x < (n : Int)) where
  enters := enters_of Try.func64 (by kernel_rfl) rfl
  tells := by
    rintro W hW x y ⟨x0, x1⟩ ⟨y0, y1⟩
    obtain ⟨i, rfl⟩ := Int.eq_ofNat_of_zero_le x0
    obtain ⟨j, rfl⟩ := Int.eq_ofNat_of_zero_le y0
    have hW' : Below w1.heap.size w1 W := hb.trans (below_of_only hW hR hb.size)
    exact relCmp_any A n c b i j l W (h2.later hW') (rA.later hW') (by omega) (by omega)

/-- By due, and among those that are due at once by number. -/
def urgLt (l : List Jb) (x y : Int) : Bool := decide ((jat l x).due < (jat l y).due ∨ (jat l x).due = (jat l y).due ∧ x < y)
theorem urgLt_lt (l : List Jb) : Lt (urgLt l) where
  asymm x y h := by unfold urgLt at h ⊢; simp at h ⊢; omega
  neg x y z h1 h2 := by unfold urgLt at h1 h2 ⊢; simp at h1 h2 ⊢; omega
theorem orF_two (a b : Int) : orF [a, b] = if a = 0 then (if b = 0 then 0 else b) else a := rfl
theorem cmpI_zero {x y : Int} : cmpI x y = 0 ↔ x = y := by
  unfold cmpI
  split
  · omega
  · split <;> omega
theorem urg_or (l : List Jb) (i j : Int) : decide (orF [cmpI (jat l i).due (jat l j).due, cmpI i j] < 0) = urgLt l i j := by
  unfold urgLt
  rw [orF_two]
  have a := cmpI_zero (x := (jat l i).due) (y := (jat l j).due)
  have b := cmpI_neg (x := (jat l i).due) (y := (jat l j).due)
  have c := cmpI_zero (x := i) (y := j)
  have d := cmpI_neg (x := i) (y := j)
  rw [decide_eq_decide]
  split
  · split <;> omega
  · omega
set_option maxRecDepth 100000 in
set_option maxHeartbeats 2000000 in
theorem urgCmp_any (A : Option Addr) (n c b i j : Nat) (l : List Jb) (W : World) (h2 : Blk W b 22 #[.slice A n c]) (rA : JobsH W A n l) (hi : i < n) (hj : j < n) :
    Calls Try.prog 65 #[.int .i64 i, .int .i64 j, .pointer (some ⟨b, 0, none⟩)] W fun e w' => e = .returned (.bool (urgLt l i j)) ∧ Below W.heap.size W w' := by
  have hu := Lib.hid (urg_or l i j)
  obtain ⟨g, x, rfl, hg, hx, x0, x1, x2, x3, BX, mX, cX, x4, _⟩ := rA.at_ hi
  obtain ⟨g', y, e1, _, hy, y0, y1, y2, y3, BY, mY, cY, y4, _⟩ := rA.at_ hj
  cases e1
  rw [jat_get hx, jat_get hy] at hu
  have l2 := h2.lt
  have c2 := h2.cell
  have hij : (i : Int) < (n : Int) := by omega
  have hjj : (j : Int) < (n : Int) := by omega
  clear rA hx hy h2 x0 x1 x3 x4 y0 y1 y3 y4
  obtain ⟨q1, hq1⟩ : ∃ q, cmpI x.due y.due = q := ⟨_, rfl⟩
  obtain ⟨q2, hq2⟩ : ∃ q, cmpI (i : Int) (j : Int) = q := ⟨_, rfl⟩
  rw [hq1, hq2] at hu
  have M1 := Lib.hid (fun w => compare_any x.due y.due w)
  have M2 := Lib.hid (fun w => compare_any (i : Int) (j : Int) w)
  rw [hq1] at M1
  rw [hq2] at M2
  clear hq1 hq2
  go_enter Try.func65, Try.ntmps65
  go_wp2_with fail
  refine wp_region_held_drew (S := fun V => Below W.heap.size W V) (by kernel_rfl) ((Below.refl _ _).drew) (fun hHeld => ?_)
  refine wpAnyH_take (i := 0) (v := ?_) rfl (by kernel_rfl) (by kernel_rfl) (by kernel_rfl) (fun _ _ _ h => h) (Or.inl ⟨by rfl, ?hy⟩) (by assumption) ?_
  case hy => (intro w hSw; have hcw : ∀ p o, p < W.heap.size → w.cell? ⟨p, o, none⟩ = W.cell? ⟨p, o, none⟩ := (fun p o h => hSw.cell (p := ⟨p, o, none⟩) h); clear hSw; go_simp; try with_reducible rfl)
  refine wpAnyH_take (i := 1) (v := ?_) rfl (by kernel_rfl) (by kernel_rfl) (by kernel_rfl) (fun _ _ _ h => h) (Or.inl ⟨by rfl, ?hy⟩) (by assumption) ?_
  case hy => (intro w hSw; have hcw : ∀ p o, p < W.heap.size → w.cell? ⟨p, o, none⟩ = W.cell? ⟨p, o, none⟩ := (fun p o h => hSw.cell (p := ⟨p, o, none⟩) h); clear hSw; go_simp; try with_reducible rfl)
  refine wpAnyH_take (i := 2) (v := ?_) rfl (by kernel_rfl) (by kernel_rfl) (by kernel_rfl) (fun _ _ _ h => h) (Or.inl ⟨by rfl, ?hy⟩) (by assumption) ?_
  case hy => (intro w hSw; have hcw : ∀ p o, p < W.heap.size → w.cell? ⟨p, o, none⟩ = W.cell? ⟨p, o, none⟩ := (fun p o h => hSw.cell (p := ⟨p, o, none⟩) h); clear hSw; go_simp; try with_reducible rfl)
  refine wpAnyH_take (i := 3) (v := ?_) rfl (by kernel_rfl) (by kernel_rfl) (by kernel_rfl) (fun _ _ _ h => h) (Or.inl ⟨by rfl, ?hy⟩) (by assumption) ?_
  case hy => (intro w hSw; have hcw : ∀ p o, p < W.heap.size → w.cell? ⟨p, o, none⟩ = W.cell? ⟨p, o, none⟩ := (fun p o h => hSw.cell (p := ⟨p, o, none⟩) h); clear hSw; go_simp; try with_reducible rfl)
  refine wpAnyH_take (i := 4) (v := ?_) rfl (by kernel_rfl) (by kernel_rfl) (by kernel_rfl) (fun _ _ _ h => h) (Or.inl ⟨by rfl, ?hy⟩) (by assumption) ?_
  case hy => (intro w hSw; have hcw : ∀ p o, p < W.heap.size → w.cell? ⟨p, o, none⟩ = W.cell? ⟨p, o, none⟩ := (fun p o h => hSw.cell (p := ⟨p, o, none⟩) h); clear hSw; go_simp; try with_reducible rfl)
  refine wpAnyH_take (i := 5) (v := ?_) rfl (by kernel_rfl) (by kernel_rfl) (by kernel_rfl) (fun _ _ _ h => h) (Or.inl ⟨by rfl, ?hy⟩) (by assumption) ?_
  case hy => (intro w hSw; have hcw : ∀ p o, p < W.heap.size → w.cell? ⟨p, o, none⟩ = W.cell? ⟨p, o, none⟩ := (fun p o h => hSw.cell (p := ⟨p, o, none⟩) h); clear hSw; go_simp; try with_reducible rfl)
  refine wpAnyH_take (i := 6) (v := ?_) rfl (by kernel_rfl) (by kernel_rfl) (by kernel_rfl) (fun _ _ _ h => h) (Or.inl ⟨by rfl, ?hy⟩) (by assumption) ?_
  case hy => (intro w hSw; have hcw : ∀ p o, p < W.heap.size → w.cell? ⟨p, o, none⟩ = W.cell? ⟨p, o, none⟩ := (fun p o h => hSw.cell (p := ⟨p, o, none⟩) h); clear hSw; go_simp; try with_reducible rfl)
  refine wpAnyH_take (i := 7) (v := ?_) rfl (by kernel_rfl) (by kernel_rfl) (by kernel_rfl) (fun _ _ _ h => h) (Or.inl ⟨by rfl, ?hy⟩) (by assumption) ?_
  case hy => (intro w hSw; have hcw : ∀ p o, p < W.heap.size → w.cell? ⟨p, o, none⟩ = W.cell? ⟨p, o, none⟩ := (fun p o h => hSw.cell (p := ⟨p, o, none⟩) h); clear hSw; go_simp; try with_reducible rfl)
  refine wpAnyH_take (i := 8) (v := ?_) rfl (by kernel_rfl) (by kernel_rfl) (by kernel_rfl) (fun _ _ _ h => h) (Or.inl ⟨by rfl, ?hy⟩) (by assumption) ?_
  case hy => (intro w hSw; have hcw : ∀ p o, p < W.heap.size → w.cell? ⟨p, o, none⟩ = W.cell? ⟨p, o, none⟩ := (fun p o h => hSw.cell (p := ⟨p, o, none⟩) h); clear hSw; go_simp; try with_reducible rfl)
  refine wpAnyH_take (i := 9) (v := ?_) rfl (by kernel_rfl) (by kernel_rfl) (by kernel_rfl) (fun _ _ _ h => h) (Or.inl ⟨by rfl, ?hy⟩) (by assumption) ?_
  case hy => (intro w hSw; have hcw : ∀ p o, p < W.heap.size → w.cell? ⟨p, o, none⟩ = W.cell? ⟨p, o, none⟩ := (fun p o h => hSw.cell (p := ⟨p, o, none⟩) h); clear hSw; go_simp; try with_reducible rfl)
  refine wpAnyH_take (i := 11) (v := ?_) rfl (by kernel_rfl) (by kernel_rfl) (by kernel_rfl) (fun _ _ _ h => h) (Or.inl ⟨by rfl, ?hy⟩) (by assumption) ?_
  case hy => (intro w hSw; have hcw : ∀ p o, p < W.heap.size → w.cell? ⟨p, o, none⟩ = W.cell? ⟨p, o, none⟩ := (fun p o h => hSw.cell (p := ⟨p, o, none⟩) h); clear hSw; go_simp; try with_reducible rfl)
  refine wpAnyH_take (i := 12) (v := ?_) rfl (by kernel_rfl) (by kernel_rfl) (by kernel_rfl) (fun _ _ _ h => h) (Or.inl ⟨by rfl, ?hy⟩) (by assumption) ?_
  case hy => (intro w hSw; have hcw : ∀ p o, p < W.heap.size → w.cell? ⟨p, o, none⟩ = W.cell? ⟨p, o, none⟩ := (fun p o h => hSw.cell (p := ⟨p, o, none⟩) h); clear hSw; go_simp; try with_reducible rfl)
  simp only [Act.put, List.setIfInBounds_toArray]
  refine wpAnyH_ready (rs := [10]) (by kernel_rfl) (by simp) (AllReadyH.cons rfl (fun K hK => ?_) AllReadyH.nil)
  go_simp
  refine (M1.out _).mono ?_
  rintro e w' ⟨rfl, rfl⟩
  refine hK.out _ _ hHeld (fun _ => ?_)
  clear hK K
  refine wpAnyH_ready (rs := [13]) (by kernel_rfl) (by simp) (AllReadyH.cons rfl (fun K hK => ?_) AllReadyH.nil)
  go_simp
  refine (M2.out _).mono ?_
  rintro e w' ⟨rfl, rfl⟩
  refine hK.out _ _ hHeld (fun _ => ?_)
  clear hK K
  refine wpAnyH_ready (rs := [14]) (by kernel_rfl) (by simp) (AllReadyH.cons rfl (fun K hK => ?_) AllReadyH.nil)
  go_simp
  have hb3 : Below W.heap.size W (W.drew.alloc (.cells #[.int .i64 q1, .int .i64 q2] 3)) := hHeld.alloc (by simp) _
  refine hK.out _ _ hb3 (fun _ => ?_)
  clear hK K
  have hOr := Or_any (some ⟨W.drew.heap.size, 0, none⟩) 2 2 [q1, q2] (W.drew.alloc (.cells #[.int .i64 q1, .int .i64 q2] 3)) (row_lit W.drew [q1, q2] 2 rfl) (by omega)
  refine wpAnyH_ready (rs := [15]) (by kernel_rfl) (by simp) (AllReadyH.cons rfl (fun K hK => ?_) AllReadyH.nil)
  go_simp
  refine hOr.mono ?_
  rintro e w' ⟨rfl, rfl⟩
  refine hK.out _ _ hb3 (fun _ => ?_)
  clear hK K hOr
  generalize orF [q1, q2] = q3 at *
  have hu2 : decide (q3 < 0) = urgLt l i j := hu.out
  refine wpAnyH_ready (rs := [16]) (by kernel_rfl) (by simp) (AllReadyH.cons rfl (fun K hK => ?_) AllReadyH.nil)
  go_simp
  refine hK.out _ _ hb3 (fun _ => ?_)
  clear hK K
  refine wpAnyH_ready (rs := [17]) (by kernel_rfl) (by simp) (AllReadyH.cons rfl (fun K hK => ?_) AllReadyH.nil)
  go_simp
  refine hK.out _ _ hb3 (fun _ => ?_)
  clear hK K
  refine wpAnyH_done (by kernel_rfl) ?_ _
  go_wp2_with fail
  go_ret
  exact ⟨by first | rfl | (rw [← hu2]; rfl) | (rw [hu2]), hb3⟩
theorem urg_less {S : Nat → Prop} {w W0 : World} {A : Option Addr} {n c bx : Nat} {l : List Jb} (h2 : Blk W0 bx 22 #[.slice A n c]) (hbx : S bx) (rA : JobsH w A n l) (hb : Below w.heap.size w W0) (hS : ∀ k, k < w.heap.size → S k) :
    LessC S W0 65 #[.pointer (some ⟨bx, 0, none⟩)] (urgLt l) (fun x => 0 ≤ x ∧ x < (n : Int)) where
  enters := enters_of Try.func65 (by kernel_rfl) rfl
  tells := by
    rintro W hW x y ⟨x0, x1⟩ ⟨y0, y1⟩
    obtain ⟨i, rfl⟩ := Int.eq_ofNat_of_zero_le x0
    obtain ⟨j, rfl⟩ := Int.eq_ofNat_of_zero_le y0
    exact urgCmp_any A n c bx i j l W (h2.fix hW hbx) (rA.later (hb.trans (hW.below hS))) (by omega) (by omega)
end Go.Proofs.Ytnfcigbiebbjdaa
