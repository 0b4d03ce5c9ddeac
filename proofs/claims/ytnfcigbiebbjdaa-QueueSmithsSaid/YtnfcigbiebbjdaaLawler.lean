/-
  Lawler's order of valid jobs.
  Conditions: the jobs are valid; the slices start at the heads of blocks.
-/
import Derived.Test.YtnfcigbiebbjdaaBools
import Derived.Deep.Cut
namespace Go.Proofs.Ytnfcigbiebbjdaa
open Go.RowKit

theorem RowT.far {w : World} {R n : Nat} {f : Int → Int} (h : RowT w R n f) {p : Addr} (hp : R ≠ p.block) (u : Value) : RowT (w.setCell p u) R n f := Blk.far h hp u
theorem RowBo.far {w : World} {R n : Nat} {f : Int → Bool} (h : RowBo w R n f) {p : Addr} (hp : R ≠ p.block) (u : Value) : RowBo (w.setCell p u) R n f := Blk.far h hp u
theorem RowB.far {w : World} {R : Nat} {l : List Int} (h : RowB w R l) {p : Addr} (hp : R ≠ p.block) (u : Value) : RowB (w.setCell p u) R l := Blk.far h hp u
theorem count_take {a x : Int} {l : List Int} {q : Nat} (h : l[q]? = some x) : (l.take (q + 1)).count a = (l.take q).count a + if a = x then 1 else 0 := by
  rw [List.take_add_one, h, List.count_append]
  congr 1
  by_cases e : a = x
  · subst e; simp
  · rw [if_neg e]
    exact List.count_eq_zero.2 (by simpa using e)
theorem named_one (l : List Jb) (o : List Int) (b a : Int) : named l (b :: o) a = named l o a + (jat l b).after.count a := by
  simp only [named]; omega
theorem named_next (l : List Jb) (k : Nat) (a : Int) : named l (nums (k + 1)) a = named l (nums k) a + (jat l k).after.count a := by
  rw [nums_succ, named_append]
  simp [named]
theorem works_next (l : List Jb) (k : Nat) : works l (nums (k + 1)) = works l (nums k) + (jat l k).work := by
  rw [nums_succ, works_append]
  simp [works]
theorem validB_len {l : List Jb} (h : validB l = true) (i : Int) : (jat l i).after.length ≤ 64 := by
  have hv := h
  unfold validB at h
  simp only [Bool.and_eq_true, decide_eq_true_eq] at h
  rcases jat_cases l i with e | ⟨k, hk, e⟩
  · rw [e]; simp [Jb.none]
  · have := allB_at h.2 k _ e
    unfold jobB at this
    simp only [Bool.and_eq_true] at this
    have h2 := riseB_short (k := k) (by rw [Nat.zero_add] at this; exact this.2)
    have := (List.getElem?_eq_some_iff.1 e).1
    omega
theorem named_le {l : List Jb} (h : validB l = true) (o : List Int) (a : Int) : named l o a ≤ 64 * o.length := by
  induction o with
  | nil => simp [named]
  | cons x r ih =>
    have h1 : (jat l x).after.count a ≤ (jat l x).after.length := List.count_le_length
    have h2 := validB_len h x
    simp only [named, List.length_cons]
    omega
theorem works_bound {l : List Jb} (h : validB l = true) (o : List Int) : 0 ≤ works l o ∧ works l o ≤ 10000 * (o.length : Int) := by
  induction o with
  | nil => simp [works]
  | cons x r ih =>
    have hx : 0 ≤ (jat l x).work ∧ (jat l x).work ≤ 10000 := by
      rcases jat_cases l x with e | ⟨k, hk, e⟩
      · rw [e]; decide
      · have := validB_calm h e
        exact ⟨by have := this.1; omega, this.2.1⟩
    simp only [works, List.length_cons]
    omega
theorem upTo_bound {l : List Jb} (h : validB l = true) {n : Nat} {R : List Int} (hG : GoodL l n R) (hn : n ≤ 64) : 0 ≤ upTo l n R ∧ upTo l n R ≤ 640000 := by
  rw [works_rest l (hG.sub l)]
  have h1 := works_bound h (rest n R)
  have h2 := (rest_perm (hG.sub l)).length_eq
  rw [List.length_append, nums_length] at h2
  omega
theorem upTo_next {l : List Jb} {n : Nat} {R : List Int} {b : Int} : upTo l n (b :: R) = upTo l n R - (jat l b).work := by
  unfold upTo
  simp only [works]
  omega
theorem put_at {r k : Nat} {R : List Int} {b : Int} (hk : r < k) : (List.replicate (k - r) 0 ++ R).set (k - 1 - r) b = List.replicate (k - (r + 1)) 0 ++ b :: R := by
  rw [show k - r = (k - (r + 1)) + 1 by omega, List.replicate_succ', List.append_assoc, List.set_append_right _ _ (by simp; omega)]
  simp [show k - 1 - r - (k - (r + 1)) = 0 by omega]
theorem Scan.nat {F : Int → Prop} {f : Int → Int} {k : Nat} {b : Int} (h : Scan F f k b) (hb : ¬ b < 0) : ∃ i : Nat, b = i ∧ i < k := by
  rcases h with ⟨h1, _⟩ | ⟨h1, h2, _⟩
  · omega
  · obtain ⟨i, rfl⟩ := Int.eq_ofNat_of_zero_le h1
    exact ⟨i, rfl, by omega⟩
/-- A job as a later world reads it; what it comes after as the earlier world knows it. -/
theorem JobsH.both {w wr : World} {A : Option Addr} {n i : Nat} {l : List Jb} (h : JobsH w A n l) (hb : Below w.heap.size w wr) (hi : i < n) :
    ∃ g B m cB, A = some ⟨g, 0, none⟩ ∧ g < wr.heap.size ∧ l[i]? = some (jat l i) ∧ wr.cell? ⟨g, i * 5, none⟩ = some (.int .i64 (jat l i).work) ∧ wr.cell? ⟨g, i * 5 + 1, none⟩ = some (.int .i64 (jat l i).rel) ∧ wr.cell? ⟨g, i * 5 + 2, none⟩ = some (.int .i64 (jat l i).due) ∧
      wr.cell? ⟨g, i * 5 + 3, none⟩ = some (.int .i64 (jat l i).wt) ∧ wr.cell? ⟨g, i * 5 + 4, none⟩ = some (.slice B m cB) ∧ RowH w B m (jat l i).after := by
  obtain ⟨g, e, hg, hj, c0, c1, c2, c3, B, m, cB, c4, hr⟩ := h.get hi
  exact ⟨g, B, m, cB, e, Nat.lt_of_lt_of_le hg hb.size, hj, (hb.cell (p := ⟨g, i * 5, none⟩) hg).trans c0, (hb.cell (p := ⟨g, i * 5 + 1, none⟩) hg).trans c1, (hb.cell (p := ⟨g, i * 5 + 2, none⟩) hg).trans c2, (hb.cell (p := ⟨g, i * 5 + 3, none⟩) hg).trans c3, (hb.cell (p := ⟨g, i * 5 + 4, none⟩) hg).trans c4, hr⟩
/-- What Lawler returns. -/
def LawlR (w : World) (l : List Jb) (n : Nat) (e : Ending) (w' : World) : Prop :=
  ∃ (O : Nat) (o : List Int), e = .returned (.tuple #[.slice (some ⟨O, 0, none⟩) n n, .int .i64 (lateF l 0 o), .int .i64 0]) ∧ GoodL l n o ∧ o.length = n ∧ RowH w' (some ⟨O, 0, none⟩) n o ∧ Below w.heap.size w w'

set_option maxRecDepth 100000 in
set_option maxHeartbeats 8000000 in
theorem Lawler_yes (A : Option Addr) (n c : Nat) (l : List Jb) (w : World) (rA : JobsH w A n l) (hv : validB l = true) : Calls Try.prog 27 #[.slice A n c] w (LawlR w l n) := by
  have hn : n ≤ 64 := by
    have h := hv
    unfold validB at h
    simp only [Bool.and_eq_true, decide_eq_true_eq] at h
    rw [← rA.1]; exact h.1
  have HC : Hid (∀ (k : Nat) (x : Jb), l[k]? = some x → Calm x) := fun k x h => validB_calm hv h
  have HV := Lib.hid hv
  have M1 := Lib.hid (Check_yes A n c l w rA hv)
  have hmk := make_ints n (by omega)
  have hmb := make_bools n (by omega)
  clear hv
  go_enter Try.func27, Try.ntmps27
  go_wp2_with fail
  refine M1.out.mono ?_
  rintro e w1 ⟨rfl, hb1⟩
  have rA1 := rA.later hb1
  obtain ⟨F, hF⟩ : ∃ F, F = w1.heap.size := ⟨_, rfl⟩
  have hF0 : w.heap.size ≤ F := by rw [hF]; exact hb1.size
  have hf0 : RowT (w1.alloc (.cells (rowc (List.replicate n 0)) 3)) F n (fun a => (named l (nums 0) a : Int)) := by
    rw [hF]
    exact (RowT.new w1 n).congr fun z _ _ => by simp [nums, named]
  have hbb := hb1.alloc hb1.size (.cells (rowc (List.replicate n 0)) 3)
  have HF := Lib.hid hF
  have hf1 : Hid (RowT (w1.alloc (.cells (rowc (List.replicate n 0)) 3)) F n (fun a => (named l (nums 0) a : Int))) := hf0
  clear M1 hF hf0
  go_wp2_with fail
  rw [← HF.out]
  go_loopw [6, 29] (fun t i wr => ∃ (k : Nat) (s : Int), k ≤ n ∧ i = .int .i64 k ∧ t = .int .i64 s ∧ Hid (s = works l (nums k)) ∧ 0 ≤ s ∧ s ≤ 10000 * k ∧ RowT wr F n (fun a => (named l (nums k) a : Int)) ∧ Below w.heap.size w wr) (fun _ i _ => n - (intOf i).toNat)
  case atStart => exact ⟨0, 0, Nat.zero_le _, rfl, rfl, rfl, Int.le_refl _, by omega, hf1.out, hbb⟩
  case round =>
    clear hf1 hbb hb1 rA1
    obtain ⟨k, s, hk, rfl, rfl, hs, s0, s1, hf, hb⟩ := hrel
    by_cases hlt : k < n
    · have hbt : decide ((k : Int) < (n : Int)) = true := by simp; omega
      have hbt2 : (k : Int) < (n : Int) := by omega
      obtain ⟨g, B, m, cB, e1, hg, hj, c0, c1, c2, c3, c4, hrow⟩ := rA.both hb hlt
      have HRow := Lib.hid hrow
      subst e1
      have hq := HC.out k _ hj
      have hlen := validB_len HV.out (k : Int)
      have hup := validB_up HV.out (k : Int)
      have hWs := Lib.hid (works_next l k)
      have hN := Lib.hid (fun a => named_next l k a)
      have HU := Lib.hid hup
      obtain ⟨p0, p1, _⟩ := hq
      clear hj hup
      generalize jat l k = j at *
      obtain ⟨W1, hW1⟩ : ∃ W1, W1 = wr.alloc (.cells #[.int .i64 j.work, .int .i64 j.rel, .int .i64 j.due, .int .i64 j.wt, .slice B m cB] 43) := ⟨_, rfl⟩
      have hba := (Below.refl wr.heap.size wr).alloc (Nat.le_refl _) (.cells #[.int .i64 j.work, .int .i64 j.rel, .int .i64 j.due, .int .i64 j.wt, .slice B m cB] 43)
      rw [← hW1] at hba
      have hf1 := (hf.later hba).congr (g := fun a => (named l (nums k) a : Int) + ((j.after.take 0).count a : Int)) (fun z _ _ => by simp)
      have hb1 := hb.trans (hba.mono hb.size)
      have HW1 := Lib.hid hW1
      have hmj : j.after.length = m := hrow.1
      clear hba hrow hf hb hW1
      go_wp2_with fail
      rw [← HW1.out]
      clear HW1 c0 c1 c2 c3 c4
      go_loopw [40] (fun i wi => ∃ q : Nat, q ≤ m ∧ i = .int .i64 q ∧ RowT wi F n (fun a => (named l (nums k) a : Int) + ((j.after.take q).count a : Int)) ∧ Below w.heap.size w wi) (fun i _ => m - (intOf i).toNat)
      case atStart => exact ⟨0, Nat.zero_le _, rfl, hf1, hb1⟩
      case round =>
        clear hf1 hb1
        obtain ⟨q, hq, rfl, hf, hb⟩ := hrel
        by_cases hqm : q < m
        · have ubt : decide ((q : Int) < (m : Int)) = true := by simp; omega
          have ubt2 : (q : Int) < (m : Int) := by omega
          obtain ⟨g2, e1, hg2, hc⟩ := (HRow.out.later hb).at_ hqm
          cases e1
          have hxq : j.after[q]? = some (j.after.getD q 0) := getD_get (by rw [hmj]; exact hqm)
          have hx := HU.out _ (List.mem_of_getElem? hxq)
          have hct := Lib.hid (fun a => count_take (a := a) hxq)
          clear hxq
          generalize j.after.getD q 0 = x at *
          obtain ⟨x0, x1⟩ := hx
          obtain ⟨i, rfl⟩ := Int.eq_ofNat_of_zero_le x0
          have hi : i < n := by omega
          have hin : (i : Int) < (n : Int) := by omega
          have cF := hf.at_ hi
          have fF := hf.frozen i
          have lF := hf.lt
          have b1 : named l (nums k) i ≤ 64 * k := by have := named_le HV.out (nums k) i; rwa [nums_length] at this
          have b2 : (j.after.take q).count (i : Int) ≤ 64 := by
            have h1 : (j.after.take q).count (i : Int) ≤ (j.after.take q).length := List.count_le_length
            rw [List.length_take] at h1
            omega
          have hset := hf.set_ i ((named l (nums k) i : Int) + ((j.after.take q).count (i : Int) : Int) + 1)
          have hset2 := hset.congr (g := fun a => (named l (nums k) a : Int) + ((j.after.take (q + 1)).count a : Int)) (fun z _ _ => by
            rw [hct.out z]
            by_cases e : z = (i : Int)
            · subst e; simp; omega
            · simp [e])
          have HS := Lib.hid hset2
          have hbs := Lib.hid (hb.setCell (p := ⟨F, i, none⟩) hF0 (.int .i64 ((named l (nums k) i : Int) + ((j.after.take q).count (i : Int) : Int) + 1)))
          clear hset hset2 hf hb hct x0 x1
          generalize named l (nums k) (i : Int) = v1 at *
          generalize List.count (i : Int) (j.after.take q) = v2 at *
          go_wp2_with fail
          go_roundw
          case rel => exact ⟨q + 1, by omega, by go_num, HS.out, hbs.out⟩
          case measure => simp [intOf]; omega
        · obtain rfl : q = m := by omega
          have ubt : decide ((q : Int) < (q : Int)) = false := by simp
          have hf2 := hf.congr (g := fun a => (named l (nums (k + 1)) a : Int)) (fun z _ _ => by
            rw [hN.out z, List.take_of_length_le (by omega)]; omega)
          go_wp2_with fail
          go_roundw
          case rel => exact ⟨k + 1, s + j.work, by omega, by go_num, rfl, by show _ = _; rw [hWs.out, hs.out], by omega, by omega, hf2, hb⟩
          case measure => simp [intOf]; omega
    · obtain rfl : k = n := by omega
      have hbt : decide ((k : Int) < (k : Int)) = false := by simp
      obtain ⟨O, hO⟩ : ∃ O, O = wr.heap.size := ⟨_, rfl⟩
      have hO0 : w.heap.size ≤ O := by rw [hO]; exact hb.size
      have hFO : F ≠ O := by have := hf.lt; omega
      have hx1 := (Below.refl wr.heap.size wr).alloc (Nat.le_refl _) (.cells (rowc (List.replicate k 0)) 3)
      have hx2 := hx1.alloc hx1.size (.cells (boolz k) 4)
      have hOr : RowB (wr.alloc (.cells (rowc (List.replicate k 0)) 3)) wr.heap.size (List.replicate k 0) := Blk.new wr 3 _
      have hO2 := hOr.later ((Below.refl _ _).alloc (Nat.le_refl _) (.cells (boolz k) 4))
      have hP2 := RowBo.new (wr.alloc (.cells (rowc (List.replicate k 0)) 3)) k
      rw [World.size_alloc] at hP2
      rw [← hO] at hO2 hP2
      have hP0 : w.heap.size ≤ O + 1 := by omega
      have hFP : F ≠ O + 1 := by have := hf.lt; omega
      have hf2 := hf.later hx2
      have hb2 := hb.trans (hx2.mono hb.size)
      have HO := Lib.hid hO
      clear hx1 hx2 hOr hf hb hO s1 s0
      go_wp2_with fail
      rw [← HO.out]
      revert hO2 hP2 hf2 hb2
      generalize hW1 : (wr.alloc (.cells (rowc (List.replicate k 0)) 3)).alloc (.cells (boolz k) 4) = W1
      intro hO2 hP2 hf2 hb2
      clear hW1
      generalize hPe : O + 1 = P at *
      have hOP : O ≠ P := by omega
      clear hPe HO
      have hst : Hid (∃ R : List Int, R.length = 0 ∧ GoodL l k R ∧ s = upTo l k R ∧ RowT W1 F k (fun a => (named l (nums k) a : Int) - (named l R a : Int)) ∧ RowB W1 O (List.replicate (k - R.length) 0 ++ R) ∧ RowBo W1 P k (fun z => decide (z ∈ R)) ∧ Below w.heap.size w W1) :=
        ⟨[], rfl, .nil, by rw [hs.out]; simp [upTo, works], hf2.congr fun z _ _ => by simp [named], by simpa using hO2, hP2.congr fun z _ _ => by simp, hb2⟩
      clear hO2 hP2 hf2 hb2 hs
      go_loopw [6, 14] (fun t i wr => ∃ (R : List Int) (s : Int), R.length ≤ k ∧ i = .int .i64 ((k : Int) - 1 - R.length) ∧ t = .int .i64 s ∧ GoodL l k R ∧ s = upTo l k R ∧ RowT wr F k (fun a => (named l (nums k) a : Int) - (named l R a : Int)) ∧ RowB wr O (List.replicate (k - R.length) 0 ++ R) ∧ RowBo wr P k (fun z => decide (z ∈ R)) ∧ Below w.heap.size w wr) (fun _ i _ => (intOf i + 1).toNat)
      case atStart =>
        obtain ⟨R, h1, h2, h3, h4, h5, h6, h7⟩ := hst.out
        exact ⟨R, s, by omega, by rw [h1]; simp, rfl, h2, h3, h4, h5, h6, h7⟩
      case round =>
        clear hst
        obtain ⟨R, s, hR, rfl, rfl, hG, hs, hf, hO, hP, hb⟩ := hrel
        obtain ⟨W2, hW2⟩ : ∃ W2, W2 = wr := ⟨_, rfl⟩
        subst hW2
        have hsb := upTo_bound HV.out hG hn
        rw [← hs] at hsb
        have HS := Lib.hid hs
        have HG := Lib.hid hG
        have HR := Lib.hid hR
        obtain ⟨s0, s1⟩ := hsb
        clear hs
        by_cases hr : R.length < k
        · obtain ⟨p, hp⟩ : ∃ p, p = k - 1 - R.length := ⟨_, rfl⟩
          have ep : (k : Int) - 1 - (R.length : Int) = (p : Int) := by omega
          rw [ep]
          have HEP := Lib.hid ep
          have HPp := Lib.hid hp
          have HRr := Lib.hid hr
          have hpk : p < k := by omega
          have hpki : (p : Int) < (k : Int) := by omega
          have t1 : decide ((p : Int) ≥ 0) = true := by simp
          clear ep hp hr hR
          go_wp2_with fail
          go_loopw [15, 67] (fun b i wi => ∃ (q : Nat) (b0 : Int), q ≤ k ∧ i = .int .i64 q ∧ b = .int .i64 b0 ∧ Scan (Free l k R) (fun z => fineJ (jat l z) s) q b0 ∧ Below W2.heap.size W2 wi) (fun _ i _ => k - (intOf i).toNat)
          case atStart => exact ⟨0, -1, Nat.zero_le _, rfl, rfl, Scan.zero _ _, Below.refl _ _⟩
          case round =>
            obtain ⟨q, b0, hq, rfl, rfl, hsc, hb2⟩ := hrel
            have hbw := hb.trans (hb2.mono hb.size)
            by_cases hqk : q < k
            · have ubt : decide ((q : Int) < (k : Int)) = true := by simp; omega
              have ubt2 : (q : Int) < (k : Int) := by omega
              have cP := (hP.later hb2).at_ hqk
              have cF := (hf.later hb2).at_ hqk
              have lP := (hP.later hb2).lt
              have lF := (hf.later hb2).lt
              have hfr := Lib.hid (named_free l (hG.sub l) (q : Int) (by omega) ubt2)
              have hxl := later_cell (w := wr)
              generalize (named l (nums k) (q : Int) : Int) - (named l R (q : Int) : Int) = v at *
              have HSc := Lib.hid hsc
              clear hsc
              by_cases hin : (q : Int) ∈ R
              · rw [decide_eq_true hin] at cP
                have HN : Hid (Scan (Free l k R) (fun z => fineJ (jat l z) s) (q + 1) b0) := HSc.out.skip (fun h => (hfr.out.1 h).1 hin)
                clear hfr HSc
                go_wp2_with fail
                refine wp_region_later (by kernel_rfl) (by kernel_rfl) ?_
                repeat (go_big_quiet_step (fail))
                refine wpQuiet_nil ?_
                rintro w3 ⟨⟨_, hb3⟩, rfl⟩
                have hb4 := hb2.trans (hb3.mono hb2.size)
                clear cP cF hxl hb2 hbw hb3
                go_wp2_with fail
                go_roundw
                case rel => exact ⟨q + 1, b0, by omega, by go_num, rfl, HN.out, hb4⟩
                case measure => simp [intOf]; omega
              · rw [decide_eq_false hin] at cP
                by_cases hd : v = 0
                · subst hd
                  have HFr : Hid (Free l k R q) := hfr.out.2 ⟨hin, rfl⟩
                  by_cases h0 : b0 < 0
                  · have u1 : decide (b0 < 0) = true := by simpa using h0
                    have HN : Hid (Scan (Free l k R) (fun z => fineJ (jat l z) s) (q + 1) (q : Int)) := HSc.out.take HFr.out (.inl h0)
                    clear hfr HSc HFr hin
                    go_wp2_with fail
                    refine wp_region_later (by kernel_rfl) (by kernel_rfl) ?_
                    repeat (go_big_quiet_step (fail))
                    refine wpQuiet_nil ?_
                    rintro w3 ⟨⟨_, hb3⟩, rfl⟩
                    have hb4 := hb2.trans (hb3.mono hb2.size)
                    clear cP cF hxl hb2 hbw hb3
                    go_wp2_with fail
                    go_roundw
                    case rel => exact ⟨q + 1, (q : Int), by omega, by go_num, rfl, HN.out, hb4⟩
                    case measure => simp [intOf]; omega
                  · have u1 : decide (b0 < 0) = false := by simpa using h0
                    obtain ⟨y, rfl, hyq⟩ := HSc.out.nat h0
                    have hyk : y < k := by omega
                    have hyki : (y : Int) < (k : Int) := by omega
                    obtain ⟨g, B, m, cB, e1, hg, hj, c0, c1, c2, c3, c4, _⟩ := rA.both hbw hqk
                    subst e1
                    obtain ⟨g', B', m', cB', e1, _, hj', d0, d1, d2, d3, d4, _⟩ := rA.both hbw hyk
                    cases e1
                    have M1 := fun w => Lib.hid (fine_any (jat l q) (.slice B m cB) s w (HC.out q _ hj) s0 s1)
                    have M2 := fun w => Lib.hid (fine_any (jat l y) (.slice B' m' cB') s w (HC.out y _ hj') s0 s1)
                    have HM1 := Lib.hid M1
                    have HM2 := Lib.hid M2
                    clear hj hj' M1 M2 h0
                    by_cases hle : fineJ (jat l q) s ≤ fineJ (jat l y) s
                    · have u2 : decide (fineJ (jat l q) s ≤ fineJ (jat l y) s) = true := by simpa using hle
                      have HN : Hid (Scan (Free l k R) (fun z => fineJ (jat l z) s) (q + 1) (q : Int)) := HSc.out.take HFr.out (.inr hle)
                      clear hfr HSc HFr hin
                      generalize fineJ (jat l q) s = f1 at *
                      generalize fineJ (jat l y) s = f2 at *
                      generalize jat l q = j1 at *
                      generalize jat l y = j2 at *
                      go_wp2_with fail
                      refine wp_region_later (by kernel_rfl) (by kernel_rfl) ?_
                      iterate 22 (go_big_quiet_step ((go_at_call 61; exact later_call (HM1.out _).out)))
                      repeat (go_big_quiet_step ((go_at_call 61; exact later_call (HM2.out _).out)))
                      refine wpQuiet_nil ?_
                      rintro w3 ⟨⟨_, hb3⟩, rfl⟩
                      have hb4 := hb2.trans (hb3.mono hb2.size)
                      clear cP cF hxl hb2 hbw hb3 HM1 HM2 c0 c1 c2 c3 c4 d0 d1 d2 d3 d4
                      go_wp2_with fail
                      go_roundw
                      case rel => exact ⟨q + 1, (q : Int), by omega, by go_num, rfl, HN.out, hb4⟩
                      case measure => simp [intOf]; omega
                    · have u2 : decide (fineJ (jat l q) s ≤ fineJ (jat l y) s) = false := by simpa using hle
                      have u3 : fineJ (jat l y) s < fineJ (jat l q) s := by omega
                      have HN : Hid (Scan (Free l k R) (fun z => fineJ (jat l z) s) (q + 1) (y : Int)) := HSc.out.keep (by omega) hle
                      clear hfr HSc HFr hin hle
                      generalize fineJ (jat l q) s = f1 at *
                      generalize fineJ (jat l y) s = f2 at *
                      generalize jat l q = j1 at *
                      generalize jat l y = j2 at *
                      go_wp2_with fail
                      refine wp_region_later (by kernel_rfl) (by kernel_rfl) ?_
                      iterate 22 (go_big_quiet_step ((go_at_call 61; exact later_call (HM1.out _).out)))
                      repeat (go_big_quiet_step ((go_at_call 61; exact later_call (HM2.out _).out)))
                      refine wpQuiet_nil ?_
                      rintro w3 ⟨⟨_, hb3⟩, rfl⟩
                      have hb4 := hb2.trans (hb3.mono hb2.size)
                      clear cP cF hxl hb2 hbw hb3 HM1 HM2 c0 c1 c2 c3 c4 d0 d1 d2 d3 d4
                      go_wp2_with fail
                      go_roundw
                      case rel => exact ⟨q + 1, (y : Int), by omega, by go_num, rfl, HN.out, hb4⟩
                      case measure => simp [intOf]; omega
                · have HN : Hid (Scan (Free l k R) (fun z => fineJ (jat l z) s) (q + 1) b0) := HSc.out.skip (fun h => hd (hfr.out.1 h).2)
                  have u1 : (v == 0) = false := by simpa using hd
                  clear hfr HSc hin
                  go_wp2_with fail
                  refine wp_region_later (by kernel_rfl) (by kernel_rfl) ?_
                  repeat (go_big_quiet_step (fail))
                  refine wpQuiet_nil ?_
                  rintro w3 ⟨⟨_, hb3⟩, rfl⟩
                  have hb4 := hb2.trans (hb3.mono hb2.size)
                  clear cP cF hxl hb2 hbw hb3
                  go_wp2_with fail
                  go_roundw
                  case rel => exact ⟨q + 1, b0, by omega, by go_num, rfl, HN.out, hb4⟩
                  case measure => simp [intOf]; omega
            · obtain rfl : q = k := by omega
              have ubt : decide ((q : Int) < (q : Int)) = false := by simp
              have hpick : Pick l q R b0 := by
                refine Scan.pick l ?_ (fun i a ha => (validB_up HV.out i a ha).2) HRr.out
                rw [← HS.out]
                exact hsc
              have HPk := Lib.hid hpick
              obtain ⟨b, rfl⟩ := Int.eq_ofNat_of_zero_le hpick.1.1
              have hbk : b < q := by have := hpick.1.2.1; omega
              have hbki : (b : Int) < (q : Int) := by omega
              clear hsc hpick
              have O3 := hO.later hb2
              have P3 := hP.later hb2
              have F3 := hf.later hb2
              have lO := O3.lt
              have lP := P3.lt
              have fO := O3.frozen p
              have fP := P3.frozen b
              obtain ⟨v0, hv0⟩ : ∃ v0, (List.replicate (q - R.length) 0 ++ R)[p]? = some v0 := ⟨_, List.getElem?_eq_getElem (by rw [List.length_append, List.length_replicate]; have := HR.out; omega)⟩
              have cO := O3.at_ hv0
              have cP := P3.at_ hbk
              have e1 := O3.set_ p (b : Int)
              rw [HPp.out, put_at HRr.out, ← HPp.out] at e1
              have O4 := e1.far (p := ⟨P, b, none⟩) hOP (.bool true)
              have P4 := (P3.far (p := ⟨O, p, none⟩) (show P ≠ O by omega) (.int .i64 b)).set_ b true
              have F4 := (F3.far (p := ⟨O, p, none⟩) hFO (.int .i64 b)).far (p := ⟨P, b, none⟩) hFP (.bool true)
              have B4 := (hbw.setCell (p := ⟨O, p, none⟩) hO0 (.int .i64 b)).setCell (p := ⟨P, b, none⟩) hP0 (.bool true)
              have hall : Hid (RowB ((wr.setCell ⟨O, p, none⟩ (.int .i64 b)).setCell ⟨P, b, none⟩ (.bool true)) O (List.replicate (q - (R.length + 1)) 0 ++ (b : Int) :: R) ∧
                  RowBo ((wr.setCell ⟨O, p, none⟩ (.int .i64 b)).setCell ⟨P, b, none⟩ (.bool true)) P q (fun z => decide (z ∈ (b : Int) :: R)) ∧
                  RowT ((wr.setCell ⟨O, p, none⟩ (.int .i64 b)).setCell ⟨P, b, none⟩ (.bool true)) F q (fun a => (named l (nums q) a : Int) - (named l R a : Int)) ∧
                  Below w.heap.size w ((wr.setCell ⟨O, p, none⟩ (.int .i64 b)).setCell ⟨P, b, none⟩ (.bool true))) :=
                ⟨O4, P4.congr fun z _ _ => by by_cases ez : z = (b : Int) <;> simp [ez], F4, B4⟩
              clear e1 O4 P4 F4 B4 O3 P3 F3 hO hP hf hb hb2 hbw hv0
              have hOPn : O ≠ P := hOP
              go_upto_region 29 with (fail)
              revert hall
              generalize (wr.setCell ⟨O, p, none⟩ (.int .i64 b)).setCell ⟨P, b, none⟩ (.bool true) = w4
              intro hall
              clear cO cP fO fP lO lP
              obtain ⟨O4, P4, F4, B4⟩ := hall
              obtain ⟨g, B, m, cB, e1, hg, hj, c0, c1, c2, c3, c4, hrow⟩ := rA.both B4 hbk
              subst e1
              have HRow := Lib.hid hrow
              have hmj : (jat l b).after.length = m := hrow.1
              have hup := validB_up HV.out (b : Int)
              have HU := Lib.hid hup
              have HGn : Hid (GoodL l q ((b : Int) :: R)) := .cons HG.out HPk.out
              have hnb := upTo_bound HV.out HGn.out hn
              have hnx : upTo l q ((b : Int) :: R) = s - (jat l b).work := by rw [upTo_next, HS.out]
              rw [hnx] at hnb
              have HNx := Lib.hid hnx
              have HNm := Lib.hid (fun a => named_one l R (b : Int) a)
              have hlenb := validB_len HV.out (b : Int)
              obtain ⟨n0, n1⟩ := hnb
              have HLR : Hid (R.length < q) := HRr.out
              clear hj hup hnx hrow
              generalize jat l b = j at *
              have F5 := F4.congr (g := fun a => (named l (nums q) a : Int) - (named l R a : Int) - ((j.after.take 0).count a : Int)) (fun z _ _ => by simp)
              go_wp2_with fail
              clear c0 c1 c2 c3 c4 F4
              go_loopw [123] (fun i wi => ∃ y : Nat, y ≤ m ∧ i = .int .i64 y ∧ RowT wi F q (fun a => (named l (nums q) a : Int) - (named l R a : Int) - ((j.after.take y).count a : Int)) ∧ RowB wi O (List.replicate (q - (R.length + 1)) 0 ++ (b : Int) :: R) ∧ RowBo wi P q (fun z => decide (z ∈ (b : Int) :: R)) ∧ Below w.heap.size w wi) (fun i _ => m - (intOf i).toNat)
              case atStart => exact ⟨0, Nat.zero_le _, rfl, F5, O4, P4, B4⟩
              case round =>
                clear F5 O4 P4 B4
                obtain ⟨y, hy, rfl, hf, hO, hP, hb⟩ := hrel
                by_cases hym : y < m
                · have ubt : decide ((y : Int) < (m : Int)) = true := by simp; omega
                  have ubt2 : (y : Int) < (m : Int) := by omega
                  obtain ⟨g2, e1, hg2, hc⟩ := (HRow.out.later hb).at_ hym
                  cases e1
                  have hxq : j.after[y]? = some (j.after.getD y 0) := getD_get (by rw [hmj]; exact hym)
                  have hx := HU.out _ (List.mem_of_getElem? hxq)
                  have hct := Lib.hid (fun a => count_take (a := a) hxq)
                  clear hxq
                  generalize j.after.getD y 0 = x at *
                  obtain ⟨x0, x1⟩ := hx
                  obtain ⟨i, rfl⟩ := Int.eq_ofNat_of_zero_le x0
                  have hi : i < q := by omega
                  have hin : (i : Int) < (q : Int) := by omega
                  have cF := hf.at_ hi
                  have fF := hf.frozen i
                  have lF := hf.lt
                  have b1 : named l (nums q) i ≤ 64 * q := by have := named_le HV.out (nums q) i; rwa [nums_length] at this
                  have b3 : named l R i ≤ 64 * q := by have := named_le HV.out R i; have := HLR.out; omega
                  have b2 : (j.after.take y).count (i : Int) ≤ 64 := by
                    have h1 : (j.after.take y).count (i : Int) ≤ (j.after.take y).length := List.count_le_length
                    rw [List.length_take] at h1
                    omega
                  have hset := hf.set_ i ((named l (nums q) i : Int) - (named l R i : Int) - ((j.after.take y).count (i : Int) : Int) - 1)
                  have hset2 := hset.congr (g := fun a => (named l (nums q) a : Int) - (named l R a : Int) - ((j.after.take (y + 1)).count a : Int)) (fun z _ _ => by
                    rw [hct.out z]
                    by_cases e : z = (i : Int)
                    · subst e; simp; omega
                    · simp [e])
                  have HSt := Lib.hid hset2
                  have HOt := Lib.hid (hO.far (p := ⟨F, i, none⟩) (show O ≠ F by omega) (.int .i64 ((named l (nums q) i : Int) - (named l R i : Int) - ((j.after.take y).count (i : Int) : Int) - 1)))
                  have HPt := Lib.hid (hP.far (p := ⟨F, i, none⟩) (show P ≠ F by omega) (.int .i64 ((named l (nums q) i : Int) - (named l R i : Int) - ((j.after.take y).count (i : Int) : Int) - 1)))
                  have hbs := Lib.hid (hb.setCell (p := ⟨F, i, none⟩) hF0 (.int .i64 ((named l (nums q) i : Int) - (named l R i : Int) - ((j.after.take y).count (i : Int) : Int) - 1)))
                  clear hset hset2 hf hb hct x0 x1 hO hP
                  generalize named l (nums q) (i : Int) = v1 at *
                  generalize named l R (i : Int) = v3 at *
                  generalize List.count (i : Int) (j.after.take y) = v2 at *
                  go_wp2_with fail
                  go_roundw
                  case rel => exact ⟨y + 1, by omega, by go_num, HSt.out, HOt.out, HPt.out, hbs.out⟩
                  case measure => simp [intOf]; omega
                · obtain rfl : y = m := by omega
                  have ubt : decide ((y : Int) < (y : Int)) = false := by simp
                  have hf2 := hf.congr (g := fun a => (named l (nums q) a : Int) - (named l ((b : Int) :: R) a : Int)) (fun z _ _ => by
                    rw [HNm.out z, List.take_of_length_le (by omega)]; omega)
                  go_wp2_with fail
                  go_roundw
                  case rel =>
                    refine ⟨(b : Int) :: R, s - j.work, ?_, ?_, rfl, HGn.out, HNx.out.symm, hf2, hO, hP, hb⟩
                    · have := HLR.out; simp; omega
                    · have := HEP.out
                      rw [List.length_cons]
                      show Value.int .i64 _ = Value.int .i64 _
                      congr 1
                      omega
                  case measure => simp [intOf]
        · have ep : (k : Int) - 1 - (R.length : Int) = -1 := by omega
          have hRk : R.length = k := by omega
          rw [ep]
          have t1 : decide ((-1 : Int) ≥ 0) = false := by decide
          rw [hRk, Nat.sub_self, List.replicate_zero, List.nil_append] at hO
          have rO := RowH.of_row (n := k) hO hRk
          have M3 := Lib.hid (late_any A (some ⟨O, 0, none⟩) k c k k l R W2 (rA.later hb) rO HC.out (fun x hx => (hG.sub l).2 x hx) hn)
          have HRk := Lib.hid hRk
          clear ep hRk hf hP hO
          go_wp2_with fail
          refine M3.out.mono ?_
          rintro e w5 ⟨rfl, hb5⟩
          have hfin := hb.trans (hb5.mono hb.size)
          have rO5 := rO.later hb5
          go_wp2_with fail
          (try simp only [Exit.inBlock, Exit.then]); refine bodyPost_ret (results_tmp3 rfl _ _ _) rfl ?_
          exact ⟨O, R, rfl, HG.out, HRk.out, rO5, hfin⟩
end Go.Proofs.Ytnfcigbiebbjdaa
