/-
  The seat's texts FewF RPie RLes RPrg in one: the contracts of the functions that the law reaches, and the plain laws that they rest on.
  Conditions: as each theorem states them.
-/
import Derived.Test.YtpklcjbdmikbdaaGO
import Derived.Deep.CutBlock
import Derived.Deep.CutRange
import Derived.Deep.RegionHeld3
import Derived.BigRegion
namespace Go.Proofs.Ytpklcjbdmikbdaa
open Go.RowKit

/-- How many pieces are kept. -/
def fewN (n q : Nat) : Nat := if n ≤ 64 then min n q else n
theorem fewN_le {n q : Nat} : fewN n q ≤ n := by unfold fewN; split <;> omega
def fewL (l : List Int) (q : Nat) : List Int := (l.take (fewN l.length q)).take 65
theorem fewL_len (l : List Int) (q : Nat) : (fewL l q).length ≤ 65 := by unfold fewL; rw [List.length_take]; omega
/-- A slice of a struct, ready to be cut. -/
structure SrcI (w : World) (A : Option Addr) (n c : Nat) (l : List Int) : Prop where
  row : RowI w A n l
  le : n ≤ c
  nil : A = none → c = 0
theorem SrcI.later {w w' : World} {A : Option Addr} {n c : Nat} {l : List Int} (h : SrcI w A n c l) (hb : Below w.heap.size w w') : SrcI w' A n c l := ⟨h.row.later hb, h.le, h.nil⟩
theorem SrcI.take {w : World} {A : Option Addr} {n c m : Nat} {l : List Int} (h : SrcI w A n c l) (hm : m ≤ n) : SrcI w A m c (l.take m) := ⟨h.row.take hm, Nat.le_trans hm h.le, h.nil⟩
/-- What few returns. -/
def FewR (w : World) (s t : List Int) (q : Nat) (lo hi : Int) (e : Ending) (w' : World) : Prop :=
  ∃ v1 v2, e = .returned (.agg #[v1, v2, .int .i64 lo, .int .i64 hi]) ∧ w'.ownsRow w.heap.size 3 1 v1 (fewL s q).length ((fewL s q).map (Value.int .i64)) ∧ w'.ownsRow w.heap.size 3 1 v2 (fewL t q).length ((fewL t q).map (Value.int .i64)) ∧ Below w.heap.size w w'
set_option maxRecDepth 100000 in
set_option maxHeartbeats 16000000 in
theorem few_any (A B : Option Addr) (n c m d q : Nat) (s t : List Int) (lo hi : Int) (w : World) (hA : SrcI w A n c s) (hB : SrcI w B m d t) (_hq : q ≤ 64) :
    Calls Try.prog 21 #[.agg #[.slice A n c, .slice B m d, .int .i64 lo, .int .i64 hi], .int .i64 (q : Int)] w (FewR w s t q lo hi) := by
  have hsz : (w.alloc (.cells #[.slice A n c, .slice B m d, .int .i64 lo, .int .i64 hi] 37)).heap.size = w.heap.size + 1 := by simp
  have kX := Blk.new w 37 #[.slice A n c, .slice B m d, .int .i64 lo, .int .i64 hi]
  have hb1 : Below w.heap.size w (w.alloc (.cells #[.slice A n c, .slice B m d, .int .i64 lo, .int .i64 hi] 37)) := (Below.refl _ _).alloc (Nat.le_refl _) _
  have kR := Blk.new (w.alloc (.cells #[.slice A n c, .slice B m d, .int .i64 lo, .int .i64 hi] 37)) 37 #[.slice none 0 0, .slice none 0 0, .int .i64 0, .int .i64 0]
  rw [hsz] at kR
  have hb2 : Below (w.alloc (.cells #[.slice A n c, .slice B m d, .int .i64 lo, .int .i64 hi] 37)).heap.size (w.alloc (.cells #[.slice A n c, .slice B m d, .int .i64 lo, .int .i64 hi] 37)) ((w.alloc (.cells #[.slice A n c, .slice B m d, .int .i64 lo, .int .i64 hi] 37)).alloc (.cells #[.slice none 0 0, .slice none 0 0, .int .i64 0, .int .i64 0] 37)) := (Below.refl _ _).alloc (Nat.le_refl _) _
  have kX2 := kX.later hb2
  have hb3 := hb1.trans (hb2.mono (by rw [hsz]; exact Nat.le_succ _))
  have HA := Lib.hid hA
  have HB := Lib.hid hB
  have HAn := Lib.hid hA.row.1
  have HBn := Lib.hid hB.row.1
  have hAc := hA.le
  have hBd := hB.le
  have hnA := Lib.hid hA.nil
  have hnB := Lib.hid hB.nil
  clear hsz kX hb1 hb2 hA hB
  go_enter Try.func21, Try.ntmps21
  go_upto_region 1 with fail
  revert kX2 kR hb3
  generalize (w.alloc (.cells #[.slice A n c, .slice B m d, .int .i64 lo, .int .i64 hi] 37)).alloc (.cells #[.slice none 0 0, .slice none 0 0, .int .i64 0, .int .i64 0] 37) = w1
  generalize hNe : w.heap.size = N
  intro kR kX hb3
  have HNe := Lib.hid hNe
  clear hNe
  have cX := kX.cell
  have lX := kX.lt
  go_upto_if 8 with (fail)
  clear cX lX
  go_cut [9] from 8 to 17 (fun _ wx => Blk wx N 37 #[.slice A (fewN n q) c, .slice B m d, .int .i64 lo, .int .i64 hi] ∧ Blk wx (N + 1) 37 #[.slice none 0 0, .slice none 0 0, .int .i64 0, .int .i64 0] ∧ Below N w wx)
  case first =>
    have cX := kX.cell
    have fX := kX.frozen
    have lX := kX.lt
    by_cases h64 : n ≤ 64
    · have hd : decide ((n : Int) ≤ 64) = true := by simp; omega
      obtain ⟨k, hk⟩ : ∃ k, k = min n q := ⟨_, rfl⟩
      have hmin : min (n : Int) (q : Int) = (k : Int) := by omega
      have HK : Hid (fewN n q = k) := by show _ = _; unfold fewN; rw [if_pos h64]; exact hk.symm
      have hkn : k ≤ n := by omega
      have hkc : k ≤ c := by omega
      have hkci : (k : Int) ≤ (c : Int) := by omega
      clear hk
      rcases A with _ | a
      · have hc0 := hnA.out rfl
        subst hc0
        have hk0 : k = 0 := by omega
        subst hk0
        go_wp2_with fail
        all_goals first
          | (exfalso; omega)
          | (go_meet; case rel => rw [HK.out]; exact ⟨kX.set_ 0 (.slice none 0 0), kR.far (p := ⟨N, 0, none⟩) (by simp) _, hb3.setCell (Nat.le_refl _) _⟩)
      · go_wp2_with fail
        all_goals first
          | (exfalso; omega)
          | (go_meet; case rel => rw [HK.out]; exact ⟨kX.set_ 0 (.slice (some a) k c), kR.far (p := ⟨N, 0, none⟩) (by simp) _, hb3.setCell (Nat.le_refl _) _⟩)
    · have hd : decide ((n : Int) ≤ 64) = false := by simp; omega
      have HK : Hid (fewN n q = n) := by show _ = _; unfold fewN; rw [if_neg h64]
      go_wp2_with fail
      all_goals first
        | (exfalso; omega)
        | (go_meet; case rel => rw [HK.out]; exact ⟨kX, kR, hb3⟩)
  case rest =>
    obtain ⟨kX, kR, hb3⟩ := hcut
    obtain ⟨n1, hn1⟩ : ∃ n1, n1 = fewN n q := ⟨_, rfl⟩
    rw [← hn1] at kX
    have HN1 := Lib.hid hn1
    clear hn1
    have cX := kX.cell
    have lX := kX.lt
    go_upto_if 21 with (fail)
    clear cX lX
    go_cut [22] from 21 to 30 (fun _ wy => Blk wy N 37 #[.slice A n1 c, .slice B (fewN m q) d, .int .i64 lo, .int .i64 hi] ∧ Blk wy (N + 1) 37 #[.slice none 0 0, .slice none 0 0, .int .i64 0, .int .i64 0] ∧ Below N w wy)
    case first =>
      have cX := kX.cell
      have fX := kX.frozen
      have lX := kX.lt
      by_cases h64 : m ≤ 64
      · have hd : decide ((m : Int) ≤ 64) = true := by simp; omega
        obtain ⟨k, hk⟩ : ∃ k, k = min m q := ⟨_, rfl⟩
        have hmin : min (m : Int) (q : Int) = (k : Int) := by omega
        have HK : Hid (fewN m q = k) := by show _ = _; unfold fewN; rw [if_pos h64]; exact hk.symm
        have hkn : k ≤ m := by omega
        have hkc : k ≤ d := by omega
        have hkci : (k : Int) ≤ (d : Int) := by omega
        clear hk
        rcases B with _ | a
        · have hc0 := hnB.out rfl
          subst hc0
          have hk0 : k = 0 := by omega
          subst hk0
          go_wp2_with fail
          all_goals first
            | (exfalso; omega)
            | (go_meet; case rel => rw [HK.out]; exact ⟨kX.set_ 1 (.slice none 0 0), kR.far (p := ⟨N, 1, none⟩) (by simp) _, hb3.setCell (Nat.le_refl _) _⟩)
        · go_wp2_with fail
          all_goals first
            | (exfalso; omega)
            | (go_meet; case rel => rw [HK.out]; exact ⟨kX.set_ 1 (.slice (some a) k d), kR.far (p := ⟨N, 1, none⟩) (by simp) _, hb3.setCell (Nat.le_refl _) _⟩)
      · have hd : decide ((m : Int) ≤ 64) = false := by simp; omega
        have HK : Hid (fewN m q = m) := by show _ = _; unfold fewN; rw [if_neg h64]
        go_wp2_with fail
        all_goals first
          | (exfalso; omega)
          | (go_meet; case rel => rw [HK.out]; exact ⟨kX, kR, hb3⟩)
    case rest =>
      obtain ⟨kX, kR, hb3⟩ := hcut
      obtain ⟨m1, hm1⟩ : ∃ m1, m1 = fewN m q := ⟨_, rfl⟩
      rw [← hm1] at kX
      have HM1 := Lib.hid hm1
      clear hm1
      have cX := kX.cell
      have lX := kX.lt
      go_upto_region 5 with fail
      obtain ⟨wd, hwd⟩ : ∃ x, x = wc := ⟨_, rfl⟩
      subst hwd
      refine wp_region_held_drew (S := fun V => Blk V N 37 #[.slice A n1 c, .slice B m1 d, .int .i64 lo, .int .i64 hi]) (by kernel_rfl) kX (fun hS0 => ?_)
      have hHeld : Below wd.heap.size wd wd.drew := (Below.refl _ _).drew
      refine wpAnyH_take (i := 0) (v := ?_) rfl (by kernel_rfl) (by kernel_rfl) (by kernel_rfl) (fun _ _ _ h => h) (Or.inl ⟨by rfl, ?hy⟩) (by assumption) ?_
      case hy => (intro w hSw; have hcw := hSw.cell; have hlw := hSw.lt; clear hSw; go_simp; try with_reducible rfl)
      refine wpAnyH_take (i := 1) (v := ?_) rfl (by kernel_rfl) (by kernel_rfl) (by kernel_rfl) (fun _ _ _ h => h) (Or.inl ⟨by rfl, ?hy⟩) (by assumption) ?_
      case hy => (intro w hSw; have hcw := hSw.cell; have hlw := hSw.lt; clear hSw; go_simp; try with_reducible rfl)
      refine wpAnyH_take (i := 3) (v := ?_) rfl (by kernel_rfl) (by kernel_rfl) (by kernel_rfl) (fun _ _ _ h => h) (Or.inl ⟨by rfl, ?hy⟩) (by assumption) ?_
      case hy => (intro w hSw; have hcw := hSw.cell; have hlw := hSw.lt; clear hSw; go_simp; try with_reducible rfl)
      refine wpAnyH_take (i := 4) (v := ?_) rfl (by kernel_rfl) (by kernel_rfl) (by kernel_rfl) (fun _ _ _ h => h) (Or.inl ⟨by rfl, ?hy⟩) (by assumption) ?_
      case hy => (intro w hSw; have hcw := hSw.cell; have hlw := hSw.lt; clear hSw; go_simp; try with_reducible rfl)
      refine wpAnyH_take (i := 6) (v := ?_) rfl (by kernel_rfl) (by kernel_rfl) (by kernel_rfl) (fun _ _ _ h => h) (Or.inl ⟨by rfl, ?hy⟩) (by assumption) ?_
      case hy => (intro w hSw; have hcw := hSw.cell; have hlw := hSw.lt; clear hSw; go_simp; try with_reducible rfl)
      refine wpAnyH_take (i := 7) (v := ?_) rfl (by kernel_rfl) (by kernel_rfl) (by kernel_rfl) (fun _ _ _ h => h) (Or.inl ⟨by rfl, ?hy⟩) (by assumption) ?_
      case hy => (intro w hSw; have hcw := hSw.cell; have hlw := hSw.lt; clear hSw; go_simp; try with_reducible rfl)
      clear cX lX
      simp only [Act.put, List.setIfInBounds_toArray]
      have hsA := (HA.out.later (by rw [HNe.out]; exact hb3)).take (m := n1) (by rw [HN1.out]; exact fewN_le)
      have hsB := (HB.out.later (by rw [HNe.out]; exact hb3)).take (m := m1) (by rw [HM1.out]; exact fewN_le)
      refine wpAnyH_ready (rs := [2]) (by kernel_rfl) (by simp) (AllReadyH.cons rfl (fun K hK => ?_) AllReadyH.nil)
      go_simp
      refine (cut_any A n1 c 65 (s.take n1) _ (hsA.later (Below.refl _ _).drew).row hsA.le hsA.nil (by omega)).mono ?_
      rintro e w3 ⟨v1, rfl, hown1, hb4⟩
      have hHeld2 := hHeld.trans (hb4.mono hHeld.size)
      refine hK.out _ _ (kX.later hHeld2) (fun _ => ?_)
      clear hK K
      refine wpAnyH_ready (rs := [5]) (by kernel_rfl) (by simp) (AllReadyH.cons rfl (fun K hK => ?_) AllReadyH.nil)
      go_simp
      refine (cut_any B m1 d 65 (t.take m1) _ (hsB.later hHeld2).row hsB.le hsB.nil (by omega)).mono ?_
      rintro e w4 ⟨v2, rfl, hown2, hb5⟩
      have hown1' := own_later hown1 hb5
      have hHeld3 := hHeld2.trans (hb5.mono hHeld2.size)
      refine hK.out _ _ (kX.later hHeld3) (fun _ => ?_)
      clear hK K
      refine wpAnyH_ready (rs := [8]) (by kernel_rfl) (by simp) (AllReadyH.cons rfl (fun K hK => ?_) AllReadyH.nil)
      obtain ⟨A1, c1, rfl⟩ := own_slice hown1'
      obtain ⟨B1, d1, rfl⟩ := own_slice hown2
      have hlR := kR.lt
      have HX1 : Hid ((Value.slice A1 ((s.take n1).take 65).length c1).ownBlock ≠ some (N + 1)) := fun e => by
        have h1 := (hown1'.lt _ e).1
        have : wd.drew.heap.size = wd.heap.size := rfl
        omega
      have HX2 : Hid ((Value.slice B1 ((t.take m1).take 65).length d1).ownBlock ≠ some (N + 1)) := fun e => by
        have h1 := (hown2.lt _ e).1
        have := hHeld2.size
        omega
      have kR4 := kR.later hHeld3
      have cR4 := kR4.cell
      have fR4 := kR4.frozen
      have lR4 := kR4.lt
      have HO1 : Hid (w4.ownsRow N 3 1 (.slice A1 ((s.take n1).take 65).length c1) (fewL s q).length ((fewL s q).map (Value.int .i64))) := by
        have e : (s.take n1).take 65 = fewL s q := by unfold fewL; rw [HAn.out, HN1.out]
        have := World.ownsRow.mono hown1' (show N ≤ _ from by have := hb3.size; rw [HNe.out] at this; exact this)
        rw [e] at this ⊢
        exact this
      have HO2 : Hid (w4.ownsRow N 3 1 (.slice B1 ((t.take m1).take 65).length d1) (fewL t q).length ((fewL t q).map (Value.int .i64))) := by
        have e : (t.take m1).take 65 = fewL t q := by unfold fewL; rw [HBn.out, HM1.out]
        have := World.ownsRow.mono hown2 (show N ≤ _ from by have h1 := hb3.size; rw [HNe.out] at h1; exact Nat.le_trans h1 hHeld2.size)
        rw [e] at this ⊢
        exact this
      have hbf := hb3.trans (hHeld3.mono (by have h1 := hb3.size; rw [HNe.out] at h1; exact h1))
      have hHd := hHeld3
      clear hown1 hown1' hown2 hsA hsB hb4 hb5
      generalize ((s.take n1).take 65).length = k1 at *
      generalize ((t.take m1).take 65).length = k2 at *
      go_simp
      refine hK.out _ _ (kX.later hHeld3) (fun _ => ?_)
      clear hK K
      refine wpAnyH_ready (rs := [9]) (by kernel_rfl) (by simp) (AllReadyH.cons rfl (fun K hK => ?_) AllReadyH.nil)
      go_simp
      have kX4 := kX.later hHeld3
      refine hK.out _ _ ((((kX4.far (p := ⟨N + 1, 0, none⟩) (by simp) _).far (p := ⟨N + 1, 1, none⟩) (by simp) _).far (p := ⟨N + 1, 2, none⟩) (by simp) _).far (p := ⟨N + 1, 3, none⟩) (by simp) _) (fun _ => ?_)
      clear hK K
      refine wpAnyH_done (by kernel_rfl) ?_ _
      go_wp2_with fail
      have hg0 : w4.grownBy w4 (some (N + 1)) := World.grownBy.refl _ _
      have hg1 := only_setCell hg0 (p := ⟨N + 1, 0, none⟩) (.inl rfl) (.slice A1 k1 c1)
      have hg2 := only_setCell hg1 (p := ⟨N + 1, 1, none⟩) (.inl rfl) (.slice B1 k2 d1)
      have hg3 := only_setCell hg2 (p := ⟨N + 1, 2, none⟩) (.inl rfl) (.int .i64 lo)
      have hg4 := only_setCell hg3 (p := ⟨N + 1, 3, none⟩) (.inl rfl) (.int .i64 hi)
      refine bodyPost_cell (N + 1) 37 #[.slice A1 k1 c1, .slice B1 k2 d1, .int .i64 lo, .int .i64 hi] (.agg #[.slice A1 k1 c1, .slice B1 k2 d1, .int .i64 lo, .int .i64 hi]) ((((kR4.set_ 0 (.slice A1 k1 c1)).set_ 1 (.slice B1 k2 d1)).set_ 2 (.int .i64 lo)).set_ 3 (.int .i64 hi)) ?_ ⟨_, _, rfl, ?_, ?_, ?_⟩
      · intro W' hW'
        simp [results, Try.results21, go_sem, hW']
      · rw [HNe.out]
        exact HO1.out.kept hg4 (.inr HX1.out)
      · rw [HNe.out]
        exact HO2.out.kept hg4 (.inr HX2.out)
      · rw [HNe.out]
        exact (((hbf.setCell (Nat.le_succ _) _).setCell (Nat.le_succ _) _).setCell (Nat.le_succ _) _).setCell (Nat.le_succ _) _
end Go.Proofs.Ytpklcjbdmikbdaa
namespace Go.Proofs.Ytpklcjbdmikbdaa
open Go.RowKit

theorem piecesB_parts (s h : List Int) (lo hi : Int) : piecesB s h lo hi = (decide (s.length ≤ 64) && (decide (h.length ≤ 64) && (rspanB lo hi 1000000 && (sizesB s && sizesB h)))) := by
  rw [span_same, Bool.eq_iff_iff, piecesB_iff]
  simp only [Bool.and_eq_true, decide_eq_true_eq, sizesB_iff]
  constructor
  · rintro ⟨a, b, c, d, e⟩; exact ⟨c, d, e, a, b⟩
  · rintro ⟨c, d, e, a, b⟩; exact ⟨a, b, c, d, e⟩
set_option maxRecDepth 100000 in
set_option maxHeartbeats 16000000 in
theorem rPieces_any (A B : Option Addr) (n c m d : Nat) (s h : List Int) (lo hi : Int) (w : World) (rA : RowI w A n s) (rB : RowI w B m h) (hn : n ≤ 1000) (hm : m ≤ 1000) :
    Calls Try.prog 59 #[.slice A n c, .slice B m d, .agg #[.int .i64 lo, .int .i64 hi]] w fun e w' => e = .returned (.bool (piecesB s h lo hi)) ∧ Below w.heap.size w w' := by
  have hb1 : Below w.heap.size w (w.alloc (.cells #[.int .i64 lo, .int .i64 hi] 26)) := (Below.refl _ _).alloc (Nat.le_refl _) _
  have k1 := Blk.new w 26 #[.int .i64 lo, .int .i64 hi]
  have c1 := k1.cell
  have l1 := k1.lt
  have HP := Lib.hid (piecesB_parts s h lo hi)
  rw [rA.1, rB.1] at HP
  have HLA := Lib.hid rA.1
  have HLB := Lib.hid rB.1
  by_cases h64 : n ≤ 64
  · have hd1 : decide ((n : Int) > 64) = false := by simp; omega
    by_cases m64 : m ≤ 64
    · have hd2 : decide ((m : Int) > 64) = false := by simp; omega
      rw [decide_eq_true h64, decide_eq_true m64] at HP
      have HM := Lib.hid fun w => rSpan_any lo hi 1000000 w (by omega) (by omega)
      generalize rspanB lo hi 1000000 = sb at *
      cases sb with
      | false =>
        have HR : Hid (piecesB s h lo hi = false) := by show _ = _; rw [HP.out]; rfl
        clear HP
        go_enter Try.func59, Try.ntmps59
        go_wp2_with fail
        refine (HM.out _).mono ?_
        rintro e w2 ⟨rfl, hb2⟩
        clear c1 l1
        go_wp2_with fail
        go_ret
        exact ⟨by rw [HR.out]; rfl, hb1.trans (hb2.mono hb1.size)⟩
      | true =>
        have HR : Hid (piecesB s h lo hi = (sizesB s && sizesB h)) := by show _ = _; rw [HP.out]; rfl
        clear HP
        go_enter Try.func59, Try.ntmps59
        go_wp2_with fail
        refine (HM.out _).mono ?_
        rintro e w2 ⟨rfl, hb2⟩
        have hb3 := hb1.trans (hb2.mono hb1.size)
        clear c1 l1 hb1 hb2 k1
        go_wp2_with fail
        go_loopw [7] (fun i wr => ∃ k : Nat, k ≤ n ∧ i = .int .i64 k ∧ Hid (sizesB (s.take k) = true) ∧ Below w.heap.size w wr) (fun i _ => n - (RowKit.intOf i).toNat)
        case atStart => exact ⟨0, Nat.zero_le _, rfl, rfl, hb3⟩
        case round =>
          clear hb3
          obtain ⟨k, hk, rfl, hS, hb6⟩ := hrel
          by_cases hlt : k < n
          · obtain ⟨a, rfl, ha, hc⟩ := (rA.later hb6).at_ hlt
            have hv := getD_some (l := s) (k := k) (by rw [HLA.out]; exact hlt)
            generalize s.getD k 0 = v at *
            have hkN : (k : Int) < (n : Int) := by omega
            have HV := Lib.hid hv
            clear hv
            cases hvb : sizeB v with
            | true =>
              have HS2 := Lib.hid (all_step HV.out hS.out hvb)
              have HMv : Hid (∀ w, Calls Try.prog 60 #[.int .i64 v, .int .i64 (-1000000), .int .i64 1000000] w fun e w' => e = .returned (.bool true) ∧ w = w') := by
                intro w
                have := rin_any v (-1000000) 1000000 w
                rw [show (decide (-1000000 ≤ v) && decide (v ≤ 1000000)) = true from hvb] at this
                exact this
              clear hvb hS
              go_wp2_with fail
              refine (HMv.out _).mono ?_
              rintro e w4 ⟨rfl, rfl⟩
              go_wp2_with fail
              go_roundw
              case rel => exact ⟨k + 1, by omega, by go_num, HS2.out, hb6⟩
              case measure => simp [RowKit.intOf]; omega
            | false =>
              have HR2 : Hid (piecesB s h lo hi = false) := by show _ = _; rw [HR.out, all_false HV.out hvb]; rfl
              have HMv : Hid (∀ w, Calls Try.prog 60 #[.int .i64 v, .int .i64 (-1000000), .int .i64 1000000] w fun e w' => e = .returned (.bool false) ∧ w = w') := by
                intro w
                have := rin_any v (-1000000) 1000000 w
                rw [show (decide (-1000000 ≤ v) && decide (v ≤ 1000000)) = false from hvb] at this
                exact this
              clear hvb hS
              go_wp2_with fail
              refine (HMv.out _).mono ?_
              rintro e w4 ⟨rfl, rfl⟩
              go_wp2_with fail
              go_ret
              exact ⟨by rw [HR2.out]; rfl, hb6⟩
          · obtain rfl : k = n := by omega
            have HR3 : Hid (piecesB s h lo hi = sizesB h) := by
              show _ = _
              have := hS.out
              rw [List.take_of_length_le (by rw [HLA.out]; exact Nat.le_refl _)] at this
              rw [HR.out, this]; rfl
            clear hS HR
            go_wp2_with fail
            go_loopw [8] (fun i wr => ∃ k : Nat, k ≤ m ∧ i = .int .i64 k ∧ Hid (sizesB (h.take k) = true) ∧ Below w.heap.size w wr) (fun i _ => m - (RowKit.intOf i).toNat)
            case atStart => exact ⟨0, Nat.zero_le _, rfl, rfl, hb6⟩
            case round =>
              clear hb6
              obtain ⟨q, hq, rfl, hS, hb6⟩ := hrel
              by_cases hlt2 : q < m
              · obtain ⟨a, rfl, ha, hc⟩ := (rB.later hb6).at_ hlt2
                have hv := getD_some (l := h) (k := q) (by rw [HLB.out]; exact hlt2)
                generalize h.getD q 0 = v at *
                have hkN : (q : Int) < (m : Int) := by omega
                have HV := Lib.hid hv
                clear hv
                cases hvb : sizeB v with
                | true =>
                  have HS2 := Lib.hid (all_step HV.out hS.out hvb)
                  have HMv : Hid (∀ w, Calls Try.prog 60 #[.int .i64 v, .int .i64 (-1000000), .int .i64 1000000] w fun e w' => e = .returned (.bool true) ∧ w = w') := by
                    intro w
                    have := rin_any v (-1000000) 1000000 w
                    rw [show (decide (-1000000 ≤ v) && decide (v ≤ 1000000)) = true from hvb] at this
                    exact this
                  clear hvb hS
                  go_wp2_with fail
                  refine (HMv.out _).mono ?_
                  rintro e w4 ⟨rfl, rfl⟩
                  go_wp2_with fail
                  go_roundw
                  case rel => exact ⟨q + 1, by omega, by go_num, HS2.out, hb6⟩
                  case measure => simp [RowKit.intOf]; omega
                | false =>
                  have HR2 : Hid (piecesB s h lo hi = false) := by show _ = _; rw [HR3.out, all_false HV.out hvb]
                  have HMv : Hid (∀ w, Calls Try.prog 60 #[.int .i64 v, .int .i64 (-1000000), .int .i64 1000000] w fun e w' => e = .returned (.bool false) ∧ w = w') := by
                    intro w
                    have := rin_any v (-1000000) 1000000 w
                    rw [show (decide (-1000000 ≤ v) && decide (v ≤ 1000000)) = false from hvb] at this
                    exact this
                  clear hvb hS
                  go_wp2_with fail
                  refine (HMv.out _).mono ?_
                  rintro e w4 ⟨rfl, rfl⟩
                  go_wp2_with fail
                  go_ret
                  exact ⟨by rw [HR2.out]; rfl, hb6⟩
              · obtain rfl : q = m := by omega
                have HR4 : Hid (piecesB s h lo hi = true) := by
                  show _ = _
                  have := hS.out
                  rw [List.take_of_length_le (by rw [HLB.out]; exact Nat.le_refl _)] at this
                  rw [HR3.out, this]
                clear hS
                go_wp2_with fail
                go_ret
                exact ⟨by rw [HR4.out]; rfl, hb6⟩
    · have hd2 : decide ((m : Int) > 64) = true := by simp; omega
      have HR : Hid (piecesB s h lo hi = false) := by show _ = _; rw [HP.out, decide_eq_true h64, decide_eq_false m64]; rfl
      clear HP
      go_enter Try.func59, Try.ntmps59
      go_wp2_with fail
      go_ret
      exact ⟨by rw [HR.out]; rfl, hb1⟩
  · have hd1 : decide ((n : Int) > 64) = true := by simp; omega
    have HR : Hid (piecesB s h lo hi = false) := by show _ = _; rw [HP.out, decide_eq_false h64]; rfl
    clear HP
    go_enter Try.func59, Try.ntmps59
    go_wp2_with fail
    go_ret
    exact ⟨by rw [HR.out]; rfl, hb1⟩
set_option maxHeartbeats 4000000 in
theorem valid_shop (A B : Option Addr) (n c m d : Nat) (s h : List Int) (lo hi : Int) (w : World) (rA : RowI w A n s) (rB : RowI w B m h) (hn : n ≤ 1000) (hm : m ≤ 1000) :
    Calls Try.prog 23 #[.agg #[.slice A n c, .slice B m d, .int .i64 lo, .int .i64 hi]] w fun e w' => e = .returned (.bool (piecesB s h lo hi)) ∧ Below w.heap.size w w' := by
  have hb1 : Below w.heap.size w (w.alloc (.cells #[.slice A n c, .slice B m d, .int .i64 lo, .int .i64 hi] 37)) := (Below.refl _ _).alloc (Nat.le_refl _) _
  have k1 := Blk.new w 37 #[.slice A n c, .slice B m d, .int .i64 lo, .int .i64 hi]
  have HM := Lib.hid (rPieces_any A B n c m d s h lo hi _ (rA.later hb1) (rB.later hb1) hn hm)
  generalize piecesB s h lo hi = pb at *
  have c1 := k1.cell
  have l1 := k1.lt
  go_enter Try.func23, Try.ntmps23
  go_wp2_with fail
  refine HM.out.mono ?_
  rintro e w2 ⟨rfl, hb2⟩
  clear c1 l1
  go_wp2_with fail
  go_ret
  exact ⟨rfl, hb1.trans (hb2.mono hb1.size)⟩
end Go.Proofs.Ytpklcjbdmikbdaa
namespace Go.Proofs.Ytpklcjbdmikbdaa
open Go.RowKit

def lessV (a b : Int) : Bool := decide (b = -1) || (decide (a ≠ -1) && decide (a < b))
theorem lessL_at : ∀ {x y : List Int} {i : Nat} {a b : Int}, x.take i = y.take i → x[i]? = some a → y[i]? = some b → a ≠ b → lessL x y = lessV a b
  | [], _, i, a, b, _, h, _, _ => by simp at h
  | _ :: _, [], i, a, b, _, _, h, _ => by simp at h
  | c :: x, d :: y, 0, a, b, _, h1, h2, hne => by
    simp at h1 h2
    subst h1 h2
    simp only [lessL, if_neg hne]
    rfl
  | c :: x, d :: y, i + 1, a, b, ht, h1, h2, hne => by
    simp at ht h1 h2
    rw [lessL, if_pos ht.1]
    exact lessL_at ht.2 h1 h2 hne
theorem lessL_end : ∀ {x y : List Int} {i : Nat}, x.take i = y.take i → (x.length ≤ i ∨ y.length ≤ i) → i ≤ x.length → i ≤ y.length → lessL x y = false
  | [], _, _, _, _, _, _ => by simp [lessL]
  | _ :: _, [], _, _, _, _, _ => by simp [lessL]
  | c :: x, d :: y, 0, _, h, _, _ => by simp at h
  | c :: x, d :: y, i + 1, ht, h, h1, h2 => by
    simp at ht h h1 h2
    rw [lessL, if_pos ht.1]
    exact lessL_end ht.2 h h1 h2
set_option maxRecDepth 100000 in
set_option maxHeartbeats 8000000 in
theorem rLess_any (A B : Option Addr) (n c m d : Nat) (l r : List Int) (w : World) (ha : RowH w A n l) (hb : RowH w B m r) (hn : n ≤ 100000) (hm : m ≤ 100000) :
    Calls Try.prog 34 #[.slice A n c, .slice B m d] w fun e w' => e = .returned (.bool (lessL l r)) ∧ Below w.heap.size w w' := by
  have HLA := Lib.hid ha.1
  have HLB := Lib.hid hb.1
  go_enter Try.func34, Try.ntmps34
  go_wp2_with fail
  go_loopw [5] (fun i wr => ∃ k : Nat, k ≤ n ∧ k ≤ m ∧ i = .int .i64 k ∧ Hid (l.take k = r.take k) ∧ Below w.heap.size w wr) (fun i _ => n - (RowKit.intOf i).toNat)
  case atStart => exact ⟨0, by omega, by omega, rfl, rfl, Below.refl _ _⟩
  case round =>
    obtain ⟨k, hk, hkm, rfl, hT, hbr⟩ := hrel
    by_cases hlt : k < n
    · have hkn : decide ((k : Int) < (n : Int)) = true := by simp; omega
      have hkni : (k : Int) < (n : Int) := by omega
      by_cases hlt2 : k < m
      · have hkm2 : decide ((k : Int) < (m : Int)) = true := by simp; omega
        have hkmi : (k : Int) < (m : Int) := by omega
        obtain ⟨g, rfl, hg, hc⟩ := (ha.later hbr).at_ hlt
        obtain ⟨g2, rfl, hg2, hc2⟩ := (hb.later hbr).at_ hlt2
        have hx1 := getD_some (l := l) (k := k) (by rw [HLA.out]; exact hlt)
        have hx2 := getD_some (l := r) (k := k) (by rw [HLB.out]; exact hlt2)
        generalize l.getD k 0 = x at *
        generalize r.getD k 0 = y at *
        have HX1 := Lib.hid hx1
        have HX2 := Lib.hid hx2
        have hx := later_cell (w := wr)
        clear hx1 hx2
        by_cases e : x = y
        · have he : (x != y) = false := by simp [e]
          have HT2 := Lib.hid (take_same HX1.out HX2.out hT.out e)
          clear e
          go_wp2_with fail
          refine wp_region_later (by kernel_rfl) (by kernel_rfl) ?_
          repeat (go_big_quiet_step (fail))
          refine wpQuiet_nil ?_
          rintro w2 ⟨⟨_, hb2⟩, rfl⟩
          have hbr2 := hbr.trans (hb2.mono hbr.size)
          clear hx hc hc2 hb2
          go_wp2_with fail
          go_roundw
          case rel => exact ⟨k + 1, by omega, by omega, by go_num, HT2.out, hbr2⟩
          case measure => simp [RowKit.intOf]; omega
        · have he : (x != y) = true := by simpa using e
          have HF := Lib.hid (lessL_at hT.out HX1.out HX2.out e)
          have HV : Hid (lessV x y = (decide (y = -1) || (decide (x ≠ -1) && decide (x < y)))) := rfl
          clear e
          by_cases hy1 : y = -1
          · have hb1 : (y == -1) = true := by simp [hy1]
            have HR : Hid (lessL l r = true) := by show _ = _; rw [HF.out, HV.out]; simp [hy1]
            clear HF HV
            go_wp2_with fail
            refine wp_region_later (by kernel_rfl) (by kernel_rfl) ?_
            repeat (go_big_quiet_step (fail))
            refine wpQuiet_nil ?_
            rintro w2 ⟨⟨_, hb2⟩, rfl⟩
            have hbr2 := hbr.trans (hb2.mono hbr.size)
            have hgl2 : g < w2.heap.size := Nat.lt_of_lt_of_le hg hb2.size
            have hgl3 : g2 < w2.heap.size := Nat.lt_of_lt_of_le hg2 hb2.size
            have hc3 := (hb2.cell (p := ⟨g, k, none⟩) hg).trans hc
            have hc4 := (hb2.cell (p := ⟨g2, k, none⟩) hg2).trans hc2
            have hx2 := later_cell (w := w2)
            clear hx hc hc2 hb2
            go_wp2_with fail
            refine wp_region_later (by kernel_rfl) (by kernel_rfl) ?_
            repeat (go_big_quiet_step (fail))
            refine wpQuiet_nil ?_
            rintro w3 ⟨⟨_, hb3⟩, rfl⟩
            clear hx2 hc3 hc4
            go_wp2_with fail
            go_ret
            exact ⟨by rw [HR.out]; rfl, hbr2.trans (hb3.mono hbr2.size)⟩
          · have hb1 : (y == -1) = false := by simp [hy1]
            by_cases hx1 : x = -1
            · have hb2' : (x != -1) = false := by simp [hx1]
              have HR : Hid (lessL l r = false) := by show _ = _; rw [HF.out, HV.out]; simp [hy1, hx1]
              clear HF HV
              go_wp2_with fail
              refine wp_region_later (by kernel_rfl) (by kernel_rfl) ?_
              repeat (go_big_quiet_step (fail))
              refine wpQuiet_nil ?_
              rintro w2 ⟨⟨_, hb2⟩, rfl⟩
              have hbr2 := hbr.trans (hb2.mono hbr.size)
              have hgl2 : g < w2.heap.size := Nat.lt_of_lt_of_le hg hb2.size
              have hgl3 : g2 < w2.heap.size := Nat.lt_of_lt_of_le hg2 hb2.size
              have hc3 := (hb2.cell (p := ⟨g, k, none⟩) hg).trans hc
              have hc4 := (hb2.cell (p := ⟨g2, k, none⟩) hg2).trans hc2
              have hx2 := later_cell (w := w2)
              clear hx hc hc2 hb2
              go_wp2_with fail
              refine wp_region_later (by kernel_rfl) (by kernel_rfl) ?_
              repeat (go_big_quiet_step (fail))
              refine wpQuiet_nil ?_
              rintro w3 ⟨⟨_, hb3⟩, rfl⟩
              clear hx2 hc3 hc4
              go_wp2_with fail
              go_ret
              exact ⟨by rw [HR.out]; rfl, hbr2.trans (hb3.mono hbr2.size)⟩
            · have hb2' : (x != -1) = true := by simp [hx1]
              by_cases hl : x < y
              · have hl1 : decide (x < y) = true := by simpa using hl
                have HR : Hid (lessL l r = true) := by show _ = _; rw [HF.out, HV.out]; simp [hy1, hx1, hl]
                clear HF HV
                go_wp2_with fail
                refine wp_region_later (by kernel_rfl) (by kernel_rfl) ?_
                repeat (go_big_quiet_step (fail))
                refine wpQuiet_nil ?_
                rintro w2 ⟨⟨_, hb2⟩, rfl⟩
                have hbr2 := hbr.trans (hb2.mono hbr.size)
                have hgl2 : g < w2.heap.size := Nat.lt_of_lt_of_le hg hb2.size
                have hgl3 : g2 < w2.heap.size := Nat.lt_of_lt_of_le hg2 hb2.size
                have hc3 := (hb2.cell (p := ⟨g, k, none⟩) hg).trans hc
                have hc4 := (hb2.cell (p := ⟨g2, k, none⟩) hg2).trans hc2
                have hx2 := later_cell (w := w2)
                clear hx hc hc2 hb2
                go_wp2_with fail
                refine wp_region_later (by kernel_rfl) (by kernel_rfl) ?_
                repeat (go_big_quiet_step (fail))
                refine wpQuiet_nil ?_
                rintro w3 ⟨⟨_, hb3⟩, rfl⟩
                clear hx2 hc3 hc4
                go_wp2_with fail
                go_ret
                exact ⟨by rw [HR.out]; rfl, hbr2.trans (hb3.mono hbr2.size)⟩
              · have hl1 : decide (x < y) = false := by simpa using hl
                have HR : Hid (lessL l r = false) := by show _ = _; rw [HF.out, HV.out]; simp [hy1, hx1, hl]
                clear HF HV
                go_wp2_with fail
                refine wp_region_later (by kernel_rfl) (by kernel_rfl) ?_
                repeat (go_big_quiet_step (fail))
                refine wpQuiet_nil ?_
                rintro w2 ⟨⟨_, hb2⟩, rfl⟩
                have hbr2 := hbr.trans (hb2.mono hbr.size)
                have hgl2 : g < w2.heap.size := Nat.lt_of_lt_of_le hg hb2.size
                have hgl3 : g2 < w2.heap.size := Nat.lt_of_lt_of_le hg2 hb2.size
                have hc3 := (hb2.cell (p := ⟨g, k, none⟩) hg).trans hc
                have hc4 := (hb2.cell (p := ⟨g2, k, none⟩) hg2).trans hc2
                have hx2 := later_cell (w := w2)
                clear hx hc hc2 hb2
                go_wp2_with fail
                refine wp_region_later (by kernel_rfl) (by kernel_rfl) ?_
                repeat (go_big_quiet_step (fail))
                refine wpQuiet_nil ?_
                rintro w3 ⟨⟨_, hb3⟩, rfl⟩
                clear hx2 hc3 hc4
                go_wp2_with fail
                go_ret
                exact ⟨by rw [HR.out]; rfl, hbr2.trans (hb3.mono hbr2.size)⟩
      · have hkm2 : decide ((k : Int) < (m : Int)) = false := by simp; omega
        have HF := Lib.hid (lessL_end hT.out (.inr (by rw [HLB.out]; omega)) (by rw [HLA.out]; exact hk) (by rw [HLB.out]; exact hkm))
        go_wp2_with fail
        go_ret
        exact ⟨by rw [HF.out]; rfl, hbr⟩
    · have hkn : decide ((k : Int) < (n : Int)) = false := by simp; omega
      have HF := Lib.hid (lessL_end hT.out (.inl (by rw [HLA.out]; omega)) (by rw [HLA.out]; exact hk) (by rw [HLB.out]; exact hkm))
      go_wp2_with fail
      go_ret
      exact ⟨by rw [HF.out]; rfl, hbr⟩
end Go.Proofs.Ytpklcjbdmikbdaa
namespace Go.Proofs.Ytpklcjbdmikbdaa
open Go.RowKit

section
variable {F : Nat → Nat → Prop} {m k : Nat} {o : List Int} {v : Int}
theorem take_snoc' (h : o[k]? = some v) : o.take (k + 1) = o.take k ++ [v] := by rw [List.take_add_one, h]; rfl
theorem take_get {j : Nat} {x : Int} (h : (o.take k)[j]? = some x) : j < k ∧ o[j]? = some x := by
  rw [List.getElem?_take] at h
  split at h
  · exact ⟨by assumption, h⟩
  · cases h
theorem PairL.miss (h : PairL F m (o.take k)) (hv : o[k]? = some (-1)) : PairL F m (o.take (k + 1)) ∧ cnt (o.take (k + 1)) = cnt (o.take k) := by
  rw [take_snoc' hv, cnt_snoc, if_neg (by omega)]
  refine ⟨⟨fun x hx => ?_, fun j x hx => ?_, fun j j' x hx hy => ?_⟩, rfl⟩
  · rcases List.mem_append.1 hx with h1 | h1
    · exact h.low x h1
    · simp at h1; omega
  · rcases snoc_get hx with h1 | ⟨_, h1⟩
    · exact h.fit j x h1
    · omega
  · rcases snoc_get hx with h1 | ⟨_, h1⟩
    · rcases snoc_get hy with h2 | ⟨_, h2⟩
      · exact h.inj j j' x h1 h2
      · omega
    · omega
theorem PairL.hit {u : Nat} (h : PairL F m (o.take k)) (hv : o[k]? = some (u : Int)) (hF : F k u) (hu : u < m) (hd : ∀ j, j < k → o[j]? ≠ some (u : Int)) : PairL F m (o.take (k + 1)) ∧ cnt (o.take (k + 1)) = cnt (o.take k) + 1 := by
  have hk := (List.getElem?_eq_some_iff.1 hv).1
  have hl : (o.take k).length = k := by rw [List.length_take]; omega
  rw [take_snoc' hv, cnt_snoc, if_pos (by omega)]
  refine ⟨⟨fun x hx => ?_, fun j x hx => ?_, fun j j' x hx hy => ?_⟩, rfl⟩
  · rcases List.mem_append.1 hx with h1 | h1
    · exact h.low x h1
    · simp at h1; omega
  · rcases snoc_get hx with h1 | ⟨h0, h1⟩
    · exact h.fit j x h1
    · rw [show j = k by omega, show x = u by omega]; exact ⟨hF, hu⟩
  · rcases snoc_get hx with h1 | ⟨h0, h1⟩
    · rcases snoc_get hy with h2 | ⟨_, h2⟩
      · exact h.inj j j' x h1 h2
      · have := take_get h1
        exact absurd (by rw [← h2]; exact this.2) (hd j this.1)
    · rcases snoc_get hy with h2 | ⟨h3, h2⟩
      · have := take_get h2
        exact absurd (by rw [← h1]; exact this.2) (hd j' this.1)
      · omega
theorem PairL.not_v (hv : o[k]? = some v) (h1 : v ≠ -1) (h : ∀ u : Nat, v = (u : Int) → ¬ (F k u ∧ u < m)) : ¬ PairL F m o := fun hp => by
  have := hp.low v (List.mem_of_getElem? hv)
  obtain ⟨u, rfl⟩ := Int.eq_ofNat_of_zero_le (by omega : 0 ≤ v)
  exact h u rfl (hp.fit k u hv)
theorem PairL.not_two {j u : Nat} (hv : o[k]? = some (u : Int)) (hj : j < k) (h : o[j]? = some (u : Int)) : ¬ PairL F m o := fun hp => by
  have := hp.inj k j u hv h
  omega
end
/-- How many are paired: -1 if the list is no pairing. -/
def PrgR (s h o : List Int) (lo hi : Int) (w : World) (e : Ending) (w' : World) : Prop :=
  (((o.length = s.length ∧ PairL (fitP s h lo hi) h.length o) ∧ e = .returned (.int .i64 ((cnt o : Nat) : Int))) ∨ (¬ (o.length = s.length ∧ PairL (fitP s h lo hi) h.length o) ∧ e = .returned (.int .i64 (-1)))) ∧ Below w.heap.size w w'
set_option maxRecDepth 100000 in
set_option maxHeartbeats 16000000 in
theorem rPairing_any (A B P : Option Addr) (n c m d q e0 : Nat) (s h o : List Int) (lo hi : Int) (w : World) (rA : RowH w A n s) (rB : RowH w B m h) (rP : RowH w P q o) (hs : Sizes s) (hh : Sizes h) (hn : n ≤ 1000) (hm : m ≤ 1000) (hq : q ≤ 1000) :
    Calls Try.prog 33 #[.slice A n c, .slice B m d, .agg #[.int .i64 lo, .int .i64 hi], .slice P q e0] w (PrgR s h o lo hi w) := by
  have hb1 : Below w.heap.size w (w.alloc (.cells #[.int .i64 lo, .int .i64 hi] 26)) := (Below.refl _ _).alloc (Nat.le_refl _) _
  have k1 := Blk.new w 26 #[.int .i64 lo, .int .i64 hi]
  have HLA := Lib.hid rA.1
  have HLB := Lib.hid rB.1
  have HLP := Lib.hid rP.1
  have HS := Lib.hid hs
  have HH := Lib.hid hh
  clear hs hh
  by_cases hqn : q = n
  · subst hqn
    have hne : ((q : Int) != (q : Int)) = false := by simp
    go_enter Try.func33, Try.ntmps33
    go_upto_region 3 with fail
    revert hb1 k1
    generalize w.alloc (.cells #[.int .i64 lo, .int .i64 hi] 26) = w1
    generalize hNe : w.heap.size = N
    intro hb1 k1
    have HNe := Lib.hid hNe
    clear hNe
    go_wp2_with fail
    go_loopw [9, 10] (fun c i wr => ∃ (k u : Nat), k ≤ q ∧ u ≤ k ∧ i = .int .i64 k ∧ c = .int .i64 u ∧ Hid (PairL (fitP s h lo hi) h.length (o.take k) ∧ cnt (o.take k) = u) ∧ Below w1.heap.size w1 wr) (fun _ i _ => q - (RowKit.intOf i).toNat)
    case atStart => exact ⟨0, 0, Nat.zero_le _, Nat.le_refl _, rfl, rfl, ⟨⟨by simp, by simp, by simp⟩, rfl⟩, Below.refl _ _⟩
    case round =>
      obtain ⟨k, u, hk, huk, rfl, rfl, hP, hb2⟩ := hrel
      have hbw := hb1.trans (hb2.mono (by have := hb1.size; rw [HNe.out] at this; exact this))
      have hbw' : Below w.heap.size w wr := by rw [HNe.out]; exact hbw
      have kB := k1.later hb2
      have cB := kB.cell
      have lB := kB.lt
      by_cases hlt : k < q
      · obtain ⟨gp, rfl, hgp, hcp⟩ := (rP.later hbw').at_ hlt
        have hkq : (k : Int) < (q : Int) := by omega
        have hv := getD_some (l := o) (k := k) (by rw [HLP.out]; exact hlt)
        obtain ⟨v, hve⟩ : ∃ v, v = o.getD k 0 := ⟨_, rfl⟩
        rw [← hve] at hv hcp
        have HV := Lib.hid hv
        clear hv hve
        by_cases hv1 : v = -1
        · have hvt : (v == -1) = true := by simp [hv1]
          obtain ⟨p1, p2⟩ := hP.out.1.miss (by rw [← hv1]; exact HV.out)
          have HP2 : Hid (PairL (fitP s h lo hi) h.length (o.take (k + 1)) ∧ cnt (o.take (k + 1)) = u) := ⟨p1, p2.trans hP.out.2⟩
          clear p1 p2 hv1 hP
          go_wp2_with fail
          go_roundw
          case rel => exact ⟨k + 1, u, by omega, by omega, by go_num, rfl, HP2.out, hb2⟩
          case measure => simp [RowKit.intOf]; omega
        · have hvt : (v == -1) = false := by simp [hv1]
          have hxl := later_cell (w := wr)
          by_cases hin : 0 ≤ v ∧ v ≤ (m : Int) - 1
          · obtain ⟨y, rfl⟩ := Int.eq_ofNat_of_zero_le hin.1
            have hym : y < m := by omega
            obtain ⟨gs, rfl, hgs, hcs⟩ := (rA.later hbw').at_ (k := k) (by have := HLA.out; omega)
            obtain ⟨gh, rfl, hgh, hch⟩ := (rB.later hbw').at_ hym
            have b1 := HS.out.at_ k
            have b2 := HH.out.at_ y
            have HM1 : Hid (∀ w, Calls Try.prog 60 #[.int .i64 (y : Int), .int .i64 0, .int .i64 ((m : Int) - 1)] w fun e w' => e = .returned (.bool true) ∧ w = w') := fun w => by
              have := rin_any (y : Int) 0 ((m : Int) - 1) w
              rw [decide_eq_true hin.1, decide_eq_true hin.2] at this
              exact this
            have hFB := fitB_iff (s := s) (h := h) (lo := lo) (hi := hi) (x := k) (k := y) (by rw [HLA.out]; exact hlt) (by rw [HLB.out]; exact hym)
            have HFB := Lib.hid hFB
            have hfd : fitB s h lo hi k y = (decide (lo ≤ h.getD y 0 - s.getD k 0) && decide (h.getD y 0 - s.getD k 0 ≤ hi)) := rfl
            have HM2 := fun w => rin_any (h.getD y 0 - s.getD k 0) lo hi w
            rw [← hfd] at HM2
            obtain ⟨fb, hfb⟩ : ∃ b, b = fitB s h lo hi k y := ⟨_, rfl⟩
            rw [← hfb] at HM2 HFB
            have HM2' := Lib.hid HM2
            clear HM2 hfd hfb hFB
            generalize h.getD y 0 = hv at *
            generalize s.getD k 0 = sv at *
            have hyi : (y : Int) < (m : Int) := by omega
            cases fb with
            | false =>
              have HF : Hid (¬ (o.length = s.length ∧ PairL (fitP s h lo hi) h.length o)) := fun hh => PairL.not_v HV.out hv1 (fun u2 e => by
                obtain rfl : u2 = y := by omega
                intro h2
                have := HFB.out.2 h2.1
                cases this) hh.2
              clear hv1 hP hin
              go_wp2_with fail
              refine wp_region_later (by kernel_rfl) (by kernel_rfl) ?_
              repeat (go_big_quiet_step ((go_at_call 60; first | (with_reducible exact later_same (HM1.out _)) | (with_reducible exact later_same (HM2'.out _)))))
              refine wpQuiet_nil ?_
              rintro w2 ⟨⟨_, hb3⟩, rfl⟩
              clear hxl hcp hcs hch cB lB
              go_wp2_with fail
              go_ret
              exact ⟨.inr ⟨HF.out, rfl⟩, hbw'.trans (hb3.mono hbw'.size)⟩
            | true =>
              have hFk := HFB.out.1 rfl
              have HFk := Lib.hid hFk
              clear hv1 hin hFk
              go_wp2_with fail
              refine wp_region_later (by kernel_rfl) (by kernel_rfl) ?_
              repeat (go_big_quiet_step ((go_at_call 60; first | (with_reducible exact later_same (HM1.out _)) | (with_reducible exact later_same (HM2'.out _)))))
              refine wpQuiet_nil ?_
              rintro w2 ⟨⟨_, hb3⟩, rfl⟩
              have hb4 := hb2.trans (hb3.mono hb2.size)
              have hcp2 := (hb3.cell (p := ⟨gp, k, none⟩) hgp).trans hcp
              have hgp2 : gp < w2.heap.size := Nat.lt_of_lt_of_le hgp hb3.size
              have rP2 := (rP.later hbw').later hb3
              clear hxl hcp hcs hch cB lB
              go_wp2_with fail
              go_loopw [11] (fun i wr => ∃ j : Nat, j ≤ k ∧ i = .int .i64 j ∧ Hid (∀ j', j' < j → o[j']? ≠ some (y : Int)) ∧ Below w2.heap.size w2 wr) (fun i _ => k - (RowKit.intOf i).toNat)
              case atStart => exact ⟨0, Nat.zero_le _, rfl, fun j' h => by omega, Below.refl _ _⟩
              case round =>
                obtain ⟨wo, hwo⟩ : ∃ x, x = wr := ⟨_, rfl⟩
                obtain ⟨j, hj, rfl, hD, hb5⟩ := hrel
                have hb6 := hb4.trans (hb5.mono hb4.size)
                have hcp3 := (hb5.cell (p := ⟨gp, k, none⟩) hgp2).trans hcp2
                have hgp3 : gp < wr.heap.size := Nat.lt_of_lt_of_le hgp2 hb5.size
                clear hwo
                by_cases hjk : j < k
                · have hji : (j : Int) < (k : Int) := by omega
                  obtain ⟨gp', e1, _, hcj⟩ := (rP2.later hb5).at_ (k := j) (by omega)
                  cases e1
                  have hvj := getD_some (l := o) (k := j) (by rw [HLP.out]; omega)
                  obtain ⟨x, hxe⟩ : ∃ x, x = o.getD j 0 := ⟨_, rfl⟩
                  rw [← hxe] at hvj hcj
                  have HVJ := Lib.hid hvj
                  have hx2 := later_cell (w := wr)
                  have hjq : (j : Int) < (q : Int) := by omega
                  clear hvj hxe
                  by_cases hxy : x = (y : Int)
                  · have hxt : (x == (y : Int)) = true := by simp [hxy]
                    have HF : Hid (¬ (o.length = s.length ∧ PairL (fitP s h lo hi) h.length o)) := fun hh => PairL.not_two HV.out hjk (by rw [← hxy]; exact HVJ.out) hh.2
                    clear hxy
                    go_wp2_with fail
                    refine wp_region_later (by kernel_rfl) (by kernel_rfl) ?_
                    repeat (go_big_quiet_step (fail))
                    refine wpQuiet_nil ?_
                    rintro w4 ⟨⟨_, hb7⟩, rfl⟩
                    have hbz := hb6.trans (hb7.mono hb6.size)
                    have hbf := hb1.trans (hbz.mono (by have := hb1.size; rw [HNe.out] at this; exact this))
                    clear hx2 hcp3 hcj
                    go_wp2_with fail
                    go_ret
                    exact ⟨.inr ⟨HF.out, rfl⟩, by rw [HNe.out]; exact hbf⟩
                  · have hxt : (x == (y : Int)) = false := by simp [hxy]
                    have HD2 : Hid (∀ j', j' < j + 1 → o[j']? ≠ some (y : Int)) := fun j' h1 h2 => by
                      rcases Nat.lt_or_ge j' j with h3 | h3
                      · exact hD.out j' h3 h2
                      · obtain rfl : j' = j := by omega
                        rw [HVJ.out] at h2
                        exact hxy (Option.some.inj h2)
                    clear hxy
                    go_wp2_with fail
                    refine wp_region_later (by kernel_rfl) (by kernel_rfl) ?_
                    repeat (go_big_quiet_step (fail))
                    refine wpQuiet_nil ?_
                    rintro w4 ⟨⟨_, hb7⟩, rfl⟩
                    have hb8 := hb5.trans (hb7.mono hb5.size)
                    clear hx2 hcp3 hcj
                    go_wp2_with fail
                    go_roundw
                    case rel => exact ⟨j + 1, by omega, by go_num, HD2.out, hb8⟩
                    case measure => simp [RowKit.intOf]; omega
                · obtain rfl : j = k := by omega
                  obtain ⟨p1, p2⟩ := hP.out.1.hit HV.out HFk.out (by rw [HLB.out]; exact hym) hD.out
                  have HP2 : Hid (PairL (fitP s h lo hi) h.length (o.take (j + 1)) ∧ cnt (o.take (j + 1)) = u + 1) := ⟨p1, by rw [p2, hP.out.2]⟩
                  clear p1 p2 hP hD hcp3
                  go_wp2_with fail
                  go_roundw
                  case rel => exact ⟨j + 1, u + 1, by omega, by omega, by go_num, by go_num, HP2.out, hb6⟩
                  case measure => simp [RowKit.intOf]; omega
          · have HM1 : Hid (∀ w, Calls Try.prog 60 #[.int .i64 v, .int .i64 0, .int .i64 ((m : Int) - 1)] w fun e w' => e = .returned (.bool false) ∧ w = w') := fun w => by
              have := rin_any v 0 ((m : Int) - 1) w
              rw [show (decide (0 ≤ v) && decide (v ≤ (m : Int) - 1)) = false by simpa using hin] at this
              exact this
            have HF : Hid (¬ (o.length = s.length ∧ PairL (fitP s h lo hi) h.length o)) := fun hh => PairL.not_v HV.out hv1 (fun u2 e h2 => by
              have h3 := h2.2
              rw [HLB.out] at h3
              exact hin ⟨by omega, by omega⟩) hh.2
            clear hv1 hin hP
            go_wp2_with fail
            refine wp_region_later (by kernel_rfl) (by kernel_rfl) ?_
            repeat (go_big_quiet_step ((go_at_call 60; exact later_same (HM1.out _))))
            refine wpQuiet_nil ?_
            rintro w2 ⟨⟨_, hb3⟩, rfl⟩
            clear hxl hcp cB lB
            go_wp2_with fail
            go_ret
            exact ⟨.inr ⟨HF.out, rfl⟩, hbw'.trans (hb3.mono hbw'.size)⟩
      · obtain rfl : k = q := by omega
        have HT : Hid (o.take k = o) := by show _ = _; rw [← HLP.out, List.take_length]
        have HP2 : Hid (PairL (fitP s h lo hi) h.length o ∧ cnt o = u) := by have := hP.out; rw [HT.out] at this; exact this
        clear hP
        go_wp2_with fail
        go_ret
        exact ⟨.inl ⟨⟨by rw [HLP.out, HLA.out], HP2.out.1⟩, by rw [HP2.out.2]; rfl⟩, hbw'⟩
  · have hne : ((q : Int) != (n : Int)) = true := by simp; omega
    have HF : Hid (¬ (o.length = s.length ∧ PairL (fitP s h lo hi) h.length o)) := fun hh => by have := hh.1; rw [HLP.out, HLA.out] at this; exact hqn this
    clear hqn rA rB rP
    go_enter Try.func33, Try.ntmps33
    go_wp2_with fail
    go_ret
    exact ⟨.inr ⟨HF.out, rfl⟩, hb1⟩
end Go.Proofs.Ytpklcjbdmikbdaa
