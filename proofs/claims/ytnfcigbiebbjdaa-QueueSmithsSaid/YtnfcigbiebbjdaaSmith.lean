/-
  Smith's order of valid jobs: it is sorted by his comparison; its weighted sum is told.
  Conditions: the jobs are valid; the slices start at the heads of blocks.
-/
import Derived.Test.YtnfcigbiebbjdaaSmithC
import Derived.Test.YtnfcigbiebbjdaaSwo
namespace Go.Proofs.Ytnfcigbiebbjdaa
open Go.RowKit

theorem JobsH.get {w : World} {A : Option Addr} {n i : Nat} {l : List Jb} (h : JobsH w A n l) (hi : i < n) : ∃ g, A = some ⟨g, 0, none⟩ ∧ g < w.heap.size ∧ l[i]? = some (jat l i) ∧ JobAt w g (i * 5) (jat l i) := by
  obtain ⟨g, j, e, hg, hj, ha⟩ := h.at_ hi
  have := jat_get hj
  exact ⟨g, e, hg, by rw [this]; exact hj, by rw [this]; exact ha⟩
set_option maxHeartbeats 1000000 in
theorem weighted_any (A O : Option Addr) (n c m e : Nat) (l : List Jb) (o : List Int) (W : World) (rA : JobsH W A n l) (rO : RowH W O m o) (ht : ∀ (k : Nat) (x : Jb), l[k]? = some x → Tame x) (ho : ∀ x ∈ o, 0 ≤ x ∧ x < (n : Int)) (hm : m ≤ 64) :
    Calls Try.prog 57 #[.slice A n c, .slice O m e] W fun e w' => e = .returned (.int .i64 (wsum l 0 o)) ∧ W = w' := by
  have HT := Lib.hid ht
  have HO := Lib.hid ho
  have HL0 : Hid (wsum l 0 o = wsumA l 0 0 (o.drop 0)) := by show _ = _; rw [wsumA_eq, List.drop_zero]; omega
  clear ht ho
  go_enter Try.func57, Try.ntmps57
  go_wp2_with fail
  go_loopw [5, 6, 11] (fun a b i wr => ∃ (k : Nat) (t u : Int), k ≤ m ∧ i = .int .i64 k ∧ a = .int .i64 t ∧ b = .int .i64 u ∧ 0 ≤ t ∧ t ≤ 10000 * k ∧ 0 ≤ u ∧ u ≤ 640000000 * k ∧ Hid (wsum l 0 o = wsumA l t u (o.drop k)) ∧ W = wr) (fun _ _ i _ => m - (intOf i).toNat)
  case atStart => exact ⟨0, 0, 0, Nat.zero_le _, rfl, rfl, rfl, Int.le_refl _, by omega, Int.le_refl _, by omega, HL0, rfl⟩
  case round =>
    obtain ⟨k, t, u, hk, rfl, rfl, rfl, t0, t1, u0, u1, hL, rfl⟩ := hrel
    by_cases hlt : k < m
    · obtain ⟨go, rfl, hgo, co⟩ := rO.at_ hlt
      have hol : o[k]? = some (o.getD k 0) := getD_get (by rw [rO.1]; exact hlt)
      have hx := HO.out _ (List.mem_of_getElem? hol)
      have hdr := Lib.hid (drop_step hol)
      clear hol
      generalize o.getD k 0 = x at *
      obtain ⟨x0, x1⟩ := hx
      obtain ⟨i, rfl⟩ := Int.eq_ofNat_of_zero_le x0
      have hi : i < n := by omega
      obtain ⟨g, rfl, hg, hj, c0, _, _, c3, _⟩ := rA.get hi
      have tx := HT.out i _ hj
      have HLs : Hid (wsumA l t u (o.drop k) = wsumA l (t + (jat l i).work) (u + (t + (jat l i).work) * (jat l i).wt) (o.drop (k + 1))) := by
        show _ = _
        rw [hdr.out]
        rfl
      clear hj
      obtain ⟨p0, p1, w0, w1⟩ := tx
      generalize (jat l i).work = p at *
      generalize (jat l i).wt = q at *
      have m1 : 0 ≤ (t + p) * q := Int.mul_nonneg (by omega) w0
      have m2 : (t + p) * q ≤ 640000 * 1000 := Int.mul_le_mul (by omega) w1 w0 (by omega)
      have hbt : decide ((k : Int) < (m : Int)) = true := by simp; omega
      have hbt2 : (k : Int) < (m : Int) := by omega
      clear hdr x0 x1
      go_wp2_with fail
      go_roundw
      case rel => exact ⟨k + 1, t + p, u + (t + p) * q, by omega, by go_num, rfl, rfl, by omega, by omega, by omega, by omega, hL.out.trans HLs.out, trivial⟩
      case measure => simp [intOf]; omega
    · obtain rfl : k = m := by omega
      have hbt : decide ((k : Int) < (k : Int)) = false := by simp
      have he : o.drop k = [] := List.drop_of_length_le (by rw [rO.1]; exact Nat.le_refl _)
      have HE : Hid (wsum l 0 o = u) := by
        show _ = _
        rw [hL.out, he]
        rfl
      clear he
      go_wp2_with fail
      go_ret
      exact ⟨by rw [HE.out]; rfl, rfl⟩

theorem JobsH.past {w w' : World} {A : Option Addr} {n : Nat} {l : List Jb} {r : Nat} (h : JobsH w A n l) (hb : w.grownBy w' (some r)) (hr : w.heap.size ≤ r) : JobsH w' A n l :=
  h.later (below_of_only (B := w.heap.size) hb hr (Nat.le_refl _))
/-- What Smith returns. -/
def SmithR (w : World) (l : List Jb) (n : Nat) (e : Ending) (w' : World) : Prop :=
  ∃ (R : Nat) (o : List Int), e = .returned (.tuple #[.slice (some ⟨R, 0, none⟩) n n, .int .i64 (wsum l 0 o), .int .i64 0]) ∧ o.Perm (nums n) ∧ o.Pairwise (leOf (smithC l)) ∧ RowH w' (some ⟨R, 0, none⟩) n o ∧ Below w.heap.size w w'
/-- A world that is later than one ahead of the row, and in which only the row and new blocks have been turned. -/
theorem smith_cmp {w1 w0 : World} {A : Option Addr} {n c b R : Nat} {l : List Jb} (h2 : Blk w1 b 22 #[.slice A n c]) (rA : JobsH w1 A n l) (ht : ∀ (k : Nat) (x : Jb), l[k]? = some x → Tame x) (hb : Below w1.heap.size w1 w0) (hR : w1.heap.size ≤ R) :
    Cmp 55 #[.pointer (some ⟨b, 0, none⟩)] (smithC l) w0 R (fun x => 0 ≤ x ∧ x < (n : Int)) where
  enters := enters_of Try.func55 (by kernel_rfl) rfl
  tells := by
    rintro W hW x y ⟨x0, x1⟩ ⟨y0, y1⟩
    obtain ⟨i, rfl⟩ := Int.eq_ofNat_of_zero_le x0
    obtain ⟨j, rfl⟩ := Int.eq_ofNat_of_zero_le y0
    have hW' : Below w1.heap.size w1 W := hb.trans (below_of_only hW hR hb.size)
    exact smithCmp_any A n c b i j l W (h2.later hW') (rA.later hW') (by omega) (by omega) ht

set_option maxHeartbeats 1000000 in
theorem Smith_yes (A : Option Addr) (n c : Nat) (l : List Jb) (w : World) (rA : JobsH w A n l) (hv : validB l = true) : Calls Try.prog 19 #[.slice A n c] w (SmithR w l n) := by
  have hn : n ≤ 64 := by
    have h := hv
    unfold validB at h
    simp only [Bool.and_eq_true, decide_eq_true_eq] at h
    rw [← rA.1]; exact h.1
  have HT : Hid (∀ (k : Nat) (x : Jb), l[k]? = some x → Tame x) := fun k x h => validB_tame hv h
  have HF := Lib.hid (validB_fair hv)
  have hw2 : Below w.heap.size w (w.alloc (.cells #[.slice A n c] 22)) := (Below.refl _ _).alloc (Nat.le_refl _) _
  have k2 := Blk.new w 22 #[.slice A n c]
  have M1 := Lib.hid (Check_yes A n c l _ (rA.later hw2) hv)
  clear hv
  go_enter Try.func19, Try.ntmps19
  have x0 := k2.cell
  have y0 := k2.lt
  go_wp2_with fail
  refine M1.out.mono ?_
  rintro e w1 ⟨rfl, hb1⟩
  have k3 := k2.later hb1
  have c2 := k3.cell
  have z2 := k3.lt
  have hw1 := hw2.trans (hb1.mono (by simp))
  clear x0 y0
  go_wp2_with fail
  refine (numbers_any n w1 (by omega)).mono ?_
  rintro e w2 ⟨rfl, hB, hb2⟩
  have q2 := k3.later hb2
  obtain ⟨R, hR⟩ : ∃ R, R = w1.heap.size := ⟨_, rfl⟩
  rw [← hR] at hB ⊢
  have C := smith_cmp (R := R) (w0 := w2) k3 (rA.later hw1) HT.out hb2 (by omega)
  have M2 := Lib.hid (sort_any C (smith_swo l HF.out).tot (nums n) n w2 (fun x hx => mem_nums.1 hx) (nums_agrees _ n) hB (World.grownBy.refl _ _) n (nums_length n).symm (by omega))
  have hsz := hw1.size
  have hRw : w.heap.size ≤ R := by omega
  have hbR : w.heap.size ≠ R := by omega
  have HR := Lib.hid hR
  have x2 := q2.cell
  have y2 := q2.lt
  clear c2 z2 hB C hR
  go_wp2_with fail
  refine M2.out.mono ?_
  rintro e w3 ⟨rfl, o, hP, hS, hB3, hg3⟩
  have HP := Lib.hid hP
  have HS := Lib.hid hS
  have p2 := q2.grown hg3 (by simp; exact hbR)
  have hw2' := hw1.trans (hb2.mono hsz)
  have hfin : Below w.heap.size w w3 := hw2'.trans (below_of_only hg3 hRw hw2'.size)
  have rO := RowH.of_row (n := n) hB3 (by rw [HP.out.length_eq, nums_length])
  have M3 := Lib.hid (weighted_any A (some ⟨R, 0, none⟩) n c n n l o w3 (rA.later hfin) rO HT.out (fun x hx => mem_nums.1 (HP.out.mem_iff.1 hx)) hn)
  have v2 := p2.cell
  have u2 := p2.lt
  clear x2 y2 hP hS M2
  go_wp2_with fail
  refine M3.out.mono ?_
  rintro e w' ⟨rfl, rfl⟩
  go_wp2_with fail
  (try simp only [Exit.inBlock, Exit.then]); refine bodyPost_ret (results_tmp3 rfl _ _ _) rfl ?_
  exact ⟨R, o, rfl, HP.out, HS.out, rO, hfin⟩
end Go.Proofs.Ytnfcigbiebbjdaa
