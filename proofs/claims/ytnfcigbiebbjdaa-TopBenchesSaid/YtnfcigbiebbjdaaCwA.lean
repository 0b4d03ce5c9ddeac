/-
  Crowded as the program does it: the walk.
  Conditions: the jobs are valid; the slices start at the heads of blocks.
-/
import Derived.Test.YtnfcigbiebbjdaaCrw
import Derived.BigQuiet
import Derived.Deep.CutBlock
import Derived.Deep.CutRange
import Derived.Outline
namespace Go.Proofs.Ytnfcigbiebbjdaa
open Go.RowKit

attribute [local go_sem] Oper.growAt Oper.growUpon
theorem orF_three (a b c : Int) : orF [a, b, c] = if a = 0 then (if b = 0 then (if c = 0 then 0 else c) else b) else a := rfl
theorem cw_or (c : Cw) (v r d : Int) : decide (orF [cmpI c.most v, cmpI r c.r, cmpI d c.d] < 0) = decide (c.most < v ∨ c.most = v ∧ (r < c.r ∨ r = c.r ∧ d < c.d)) := by
  rw [orF_three]
  have a := cmpI_zero (x := c.most) (y := v)
  have b := cmpI_neg (x := c.most) (y := v)
  have a1 := cmpI_zero (x := r) (y := c.r)
  have b1 := cmpI_neg (x := r) (y := c.r)
  have a2 := cmpI_zero (x := d) (y := c.d)
  have b2 := cmpI_neg (x := d) (y := c.d)
  rw [decide_eq_decide]
  split
  · split
    · split <;> omega
    · omega
  · omega
theorem winS_succ (l : List Jb) (r d : Int) (j : Nat) : winS l r d (j + 1) = winS l r d j + if r ≤ (jat l j).rel ∧ (jat l j).due ≤ d then (jat l j).work else 0 := by
  show winS l r d j + (if InW l r d j then (jat l j).work else 0) = _
  by_cases h : r ≤ (jat l j).rel ∧ (jat l j).due ≤ d
  · rw [if_pos h, if_pos (show InW l r d j from h)]
  · rw [if_neg h, if_neg (show ¬ InW l r d j from h)]
theorem winS_cap {l : List Jb} (hv : validB l = true) (r d : Int) (k : Nat) : winS l r d k ≤ k * 10000 :=
  sumTo_cap (fun i => by
    have := jat_calm hv i
    show (if InW l r d i then (jat l i).work else 0) ≤ 10000
    split <;> omega) k
/-- The worst window so far, in memory. -/
def CwM (w : World) (b : Nat) (c : Cw) (u : Value) : Prop := u = .bool c.any ∧ Blk w b 92 #[.int .i64 c.most, .int .i64 c.r, .int .i64 c.d]
theorem CwM.later {w w' : World} {b : Nat} {c : Cw} {u : Value} (h : CwM w b c u) (hb : Below w.heap.size w w') : CwM w' b c u := ⟨h.1, h.2.later hb⟩
theorem Blk.set3 {w : World} {b : Nat} {x y z p q r : Value} (h : Blk w b 92 #[x, y, z]) : Blk (((w.setCell ⟨b, 0, none⟩ p).setCell ⟨b, 1, none⟩ q).setCell ⟨b, 2, none⟩ r) b 92 #[p, q, r] := by
  have := ((h.set_ 0 p).set_ 1 q).set_ 2 r
  simpa using this
theorem Blk.far3 {w : World} {b g t : Nat} {cs : Array Value} {p q r : Value} (h : Blk w g t cs) (hg : g ≠ b) : Blk (((w.setCell ⟨b, 0, none⟩ p).setCell ⟨b, 1, none⟩ q).setCell ⟨b, 2, none⟩ r) g t cs :=
  ((h.far hg _).far hg _).far hg _
theorem below3 {w w2 : World} {b : Nat} {p q r : Value} (h : Below w.heap.size w w2) (hb : w.heap.size ≤ b) : Below w.heap.size w (((w2.setCell ⟨b, 0, none⟩ p).setCell ⟨b, 1, none⟩ q).setCell ⟨b, 2, none⟩ r) :=
  h.trans (Fix.below (S := fun k => k ≠ b) ((((Fix.refl _ _).setCell (fun e => e rfl) _).setCell (fun e => e rfl) _).setCell (fun e => e rfl) _) (fun k hk e => by omega))
set_option maxRecDepth 100000 in
set_option maxHeartbeats 4000000 in
theorem Crowded_yes (A : Option Addr) (n c : Nat) (l : List Jb) (w : World) (rA : JobsH w A n l) (hv : validB l = true) (h0 : 0 < n) :
    Calls Try.prog 36 #[.slice A n c] w fun e w' => e = .returned (.tuple #[.int .i64 (cwAll l n n).r, .int .i64 (cwAll l n n).d, .int .i64 0]) ∧ Below w.heap.size w w' := by
  have hn : n ≤ 64 := by
    have h := hv
    unfold validB at h
    simp only [Bool.and_eq_true, decide_eq_true_eq] at h
    rw [← rA.1]; exact h.1
  have HV := Lib.hid hv
  have M1 := Lib.hid (Check_yes A n c l w rA hv)
  have hn0 : ((n : Int) == 0) = false := by simp; omega
  clear hv
  go_enter Try.func36, Try.ntmps36
  go_wp2_with fail
  refine M1.out.mono ?_
  rintro e w1 ⟨rfl, hb1⟩
  have k1 := Blk.new w1 92 #[.int .i64 0, .int .i64 0, .int .i64 0]
  have hb2 := hb1.alloc hb1.size (.cells #[.int .i64 0, .int .i64 0, .int .i64 0] 92)
  obtain ⟨bb, hbb⟩ : ∃ bb, bb = w1.heap.size := ⟨_, rfl⟩
  have hbw : w.heap.size ≤ bb := by rw [hbb]; exact hb1.size
  rw [← hbb] at k1
  have HBb := Lib.hid hbb
  clear M1 hbb
  go_upto_region 7 with fail
  rw [← HBb.out]
  revert k1 hb2
  generalize w1.alloc (.cells #[.int .i64 0, .int .i64 0, .int .i64 0] 92) = w2
  intro hb2 k1
  clear HBb hb1
  go_wp2_with fail
  go_loopw [7, 28] (fun u7 u28 wr => ∃ i : Nat, i ≤ n ∧ u28 = .int .i64 i ∧ CwM wr bb (cwAll l n i) u7 ∧ Below w.heap.size w wr) (fun _ i _ => n - (intOf i).toNat)
  case atStart => exact ⟨0, Nat.zero_le _, rfl, ⟨rfl, k1⟩, hb2⟩
  case round =>
    clear k1 hb2
    obtain ⟨i, hi, rfl, hM, hb⟩ := hrel
    by_cases hlt : i < n
    · have hbt : decide ((i : Int) < (n : Int)) = true := by simp; omega
      have hbt2 : (i : Int) < (n : Int) := by omega
      obtain ⟨gA, B, mB, cB, e1, hgl, hj, c0, c1, c2, c3, c4, _⟩ := rA.both hb hlt
      subst e1
      have hai := jat_calm HV.out i
      obtain ⟨a0, ha0⟩ : ∃ a0, a0 = (jat l i).work := ⟨_, rfl⟩
      obtain ⟨a1, ha1⟩ : ∃ a1, a1 = (jat l i).rel := ⟨_, rfl⟩
      obtain ⟨a2, ha2⟩ : ∃ a2, a2 = (jat l i).due := ⟨_, rfl⟩
      obtain ⟨a3, ha3⟩ : ∃ a3, a3 = (jat l i).wt := ⟨_, rfl⟩
      rw [← ha0] at c0
      rw [← ha1] at c1
      rw [← ha2] at c2
      rw [← ha3] at c3
      rw [← ha1] at hai
      have HA1 := Lib.hid ha1
      have hr0 : 0 ≤ a1 := hai.2.2.2.2.1
      have hr1 : a1 ≤ 640000 := hai.2.2.2.2.2
      have kA := Blk.new wr 43 #[.int .i64 a0, .int .i64 a1, .int .i64 a2, .int .i64 a3, .slice B mB cB]
      have hbA := (Below.refl wr.heap.size wr).alloc (Nat.le_refl _) (.cells #[.int .i64 a0, .int .i64 a1, .int .i64 a2, .int .i64 a3, .slice B mB cB] 43)
      have hM2 := hM.later hbA
      have hb3 := hb.trans (hbA.mono hb.size)
      obtain ⟨ba, hba⟩ : ∃ ba, ba = wr.heap.size := ⟨_, rfl⟩
      have hba2 : ba ≠ bb := by have := hM.2.lt; omega
      rw [← hba] at kA
      have HBa := Lib.hid hba
      clear hj ha0 ha1 ha2 ha3 hai hba hM hbA hb
      go_upto_region 10 with fail
      rw [← HBa.out]
      revert kA hM2 hb3
      generalize wr.alloc (.cells #[.int .i64 a0, .int .i64 a1, .int .i64 a2, .int .i64 a3, .slice B mB cB] 43) = wa
      intro hM2 hb3 kA
      clear c0 c1 c2 c3 c4 HBa hgl
      go_wp2_with fail
      go_loopw [7, 34] (fun u7 u34 wm => ∃ k : Nat, k ≤ n ∧ u34 = .int .i64 k ∧ CwM wm bb (cwRow l n i (cwAll l n i) k) u7 ∧ Blk wm ba 43 #[.int .i64 a0, .int .i64 a1, .int .i64 a2, .int .i64 a3, .slice B mB cB] ∧ Below w.heap.size w wm) (fun _ i _ => n - (intOf i).toNat)
      case atStart => exact ⟨0, Nat.zero_le _, rfl, hM2, kA, hb3⟩
      case round =>
        clear hM2 kA hb3
        obtain ⟨k, hk, rfl, hM, kA, hb⟩ := hrel
        by_cases hkn : k < n
        · have hbk : decide ((k : Int) < (n : Int)) = true := by simp; omega
          have hbk2 : (k : Int) < (n : Int) := by omega
          obtain ⟨gA', B', mB', cB', e1, _, hj, c0, c1, c2, c3, c4, _⟩ := rA.both hb hkn
          cases e1
          have hai := jat_calm HV.out k
          obtain ⟨b0, hb0⟩ : ∃ b0, b0 = (jat l k).work := ⟨_, rfl⟩
          obtain ⟨b1, hb1⟩ : ∃ b1, b1 = (jat l k).rel := ⟨_, rfl⟩
          obtain ⟨b2, hb2⟩ : ∃ b2, b2 = (jat l k).due := ⟨_, rfl⟩
          obtain ⟨b3, hb3⟩ : ∃ b3, b3 = (jat l k).wt := ⟨_, rfl⟩
          rw [← hb0] at c0
          rw [← hb1] at c1
          rw [← hb2] at c2
          rw [← hb3] at c3
          rw [← hb2] at hai
          have HB2 := Lib.hid hb2
          have hd0 : 0 ≤ b2 := hai.2.2.1
          have hd1 : b2 ≤ 640000 := hai.2.2.2.1
          have kB := Blk.new wr 43 #[.int .i64 b0, .int .i64 b1, .int .i64 b2, .int .i64 b3, .slice B' mB' cB']
          have hbB := (Below.refl wr.heap.size wr).alloc (Nat.le_refl _) (.cells #[.int .i64 b0, .int .i64 b1, .int .i64 b2, .int .i64 b3, .slice B' mB' cB'] 43)
          have hM2 := hM.later hbB
          have kA2 := kA.later hbB
          have hbw2 := hb.trans (hbB.mono hb.size)
          obtain ⟨bk, hbk⟩ : ∃ bk, bk = wr.heap.size := ⟨_, rfl⟩
          rw [← hbk] at kB
          have HBk := Lib.hid hbk
          clear hj hb0 hb1 hb2 hb3 hai hbk hM hbB hb kA
          go_upto_region 13 with fail
          rw [← HBk.out]
          revert kB hM2 kA2 hbw2
          generalize wr.alloc (.cells #[.int .i64 b0, .int .i64 b1, .int .i64 b2, .int .i64 b3, .slice B' mB' cB'] 43) = wk
          intro hM2 kA2 hbw2 kB
          clear c0 c1 c2 c3 c4 HBk
          go_wp2_with fail
          go_loopw [12, 40] (fun u12 u40 wi => ∃ j : Nat, j ≤ n ∧ u40 = .int .i64 j ∧ u12 = .int .i64 (winS l a1 b2 j) ∧ Below wk.heap.size wk wi) (fun _ i _ => n - (intOf i).toNat)
          case atStart => exact ⟨0, Nat.zero_le _, rfl, rfl, Below.refl _ _⟩
          case round =>
            obtain ⟨j, hj, rfl, rfl, hbi⟩ := hrel
            have hs0 := winS_nonneg (l := l) (r := a1) (d := b2) (k := j) fun i => (jat_calm HV.out i).1
            have hs1 := winS_cap HV.out a1 b2 j
            by_cases hjn : j < n
            · have hbj : decide ((j : Int) < (n : Int)) = true := by simp; omega
              have hbj2 : (j : Int) < (n : Int) := by omega
              obtain ⟨gA', B'', mB'', cB'', e1, _, hj', c0, c1, c2, c3, c4, _⟩ := rA.both (hbw2.trans (hbi.mono hbw2.size)) hjn
              cases e1
              have hW := Lib.hid (winS_succ l a1 b2 j)
              have hc := jat_calm HV.out j
              have hw0 := hc.1
              have hw1 := hc.2.1
              clear hj' hc
              obtain ⟨x0, hx0⟩ : ∃ x0, x0 = (jat l j).work := ⟨_, rfl⟩
              obtain ⟨x1, hx1⟩ : ∃ x1, x1 = (jat l j).rel := ⟨_, rfl⟩
              obtain ⟨x2, hx2⟩ : ∃ x2, x2 = (jat l j).due := ⟨_, rfl⟩
              obtain ⟨x3, hx3⟩ : ∃ x3, x3 = (jat l j).wt := ⟨_, rfl⟩
              rw [← hx0] at c0 hW hw0 hw1
              rw [← hx1] at c1 hW
              rw [← hx2] at c2 hW
              rw [← hx3] at c3
              obtain ⟨s, hs⟩ : ∃ s, s = winS l a1 b2 j := ⟨_, rfl⟩
              rw [← hs] at hW hs0 hs1 ⊢
              have hbX := (Below.refl wr.heap.size wr).alloc (Nat.le_refl _) (.cells #[.int .i64 x0, .int .i64 x1, .int .i64 x2, .int .i64 x3, .slice B'' mB'' cB''] 43)
              have hbi2 := Lib.hid (hbi.trans (hbX.mono hbi.size))
              have cA := (kA2.later hbi).cell
              have lA := (kA2.later hbi).lt
              have cB2 := (kB.later hbi).cell
              have lB := (kB.later hbi).lt
              clear hx0 hx1 hx2 hx3 hs hbX hbi
              by_cases t1 : x1 ≥ a1
              · have u1 : decide (x1 ≥ a1) = true := decide_eq_true t1
                by_cases t2 : x2 ≤ b2
                · have u2 : decide (x2 ≤ b2) = true := decide_eq_true t2
                  have hW2 : Hid (winS l a1 b2 (j + 1) = s + x0) := by show _ = _; rw [hW.out, if_pos ⟨t1, t2⟩]
                  clear hW
                  go_wp2_with fail
                  go_roundw
                  case rel => exact ⟨j + 1, by omega, by go_num, by rw [hW2.out], hbi2.out⟩
                  case measure => simp [intOf]; omega
                · have u2 : decide (x2 ≤ b2) = false := decide_eq_false t2
                  have hW2 : Hid (winS l a1 b2 (j + 1) = s) := by show _ = _; rw [hW.out, if_neg (fun h => t2 h.2), Int.add_zero]
                  clear hW
                  go_wp2_with fail
                  go_roundw
                  case rel => exact ⟨j + 1, by omega, by go_num, by rw [hW2.out], hbi2.out⟩
                  case measure => simp [intOf]; omega
              · have u1 : decide (x1 ≥ a1) = false := decide_eq_false t1
                have hW2 : Hid (winS l a1 b2 (j + 1) = s) := by show _ = _; rw [hW.out, if_neg (fun h => t1 h.1), Int.add_zero]
                clear hW
                go_wp2_with fail
                go_roundw
                case rel => exact ⟨j + 1, by omega, by go_num, by rw [hW2.out], hbi2.out⟩
                case measure => simp [intOf]; omega
            · obtain rfl : j = n := by omega
              have hbj : decide ((j : Int) < (j : Int)) = false := by simp
              have hM3 := hM2.later hbi
              have kA3 := kA2.later hbi
              have kB3 := kB.later hbi
              have hbw3 := hbw2.trans (hbi.mono hbw2.size)
              obtain ⟨s, hs⟩ : ∃ s, s = winS l a1 b2 j := ⟨_, rfl⟩
              rw [← hs] at hs0 hs1 ⊢
              have HSt : Hid (cwRow l j i (cwAll l j i) (k + 1) = (cwRow l j i (cwAll l j i) k).step s a1 b2) := by
                show _ = _
                rw [hs, HA1.out, HB2.out]
                rfl
              clear hs hbi hM2 kA2 kB hbw2
              obtain ⟨cw, hcw⟩ : ∃ cw, cw = cwRow l j i (cwAll l j i) k := ⟨_, rfl⟩
              rw [← hcw] at HSt hM3
              clear hcw
              obtain ⟨e7, kM⟩ := hM3
              subst e7
              obtain ⟨v, hv⟩ : ∃ v, v = a1 + s - b2 := ⟨_, rfl⟩
              have HV0 := Lib.hid hv
              have kX := Blk.new wr 92 #[.int .i64 (a1 + s - b2), .int .i64 a1, .int .i64 b2]
              have hbX := (Below.refl wr.heap.size wr).alloc (Nat.le_refl _) (.cells #[.int .i64 (a1 + s - b2), .int .i64 a1, .int .i64 b2] 92)
              have kM2 := kM.later hbX
              have kA4 := kA3.later hbX
              have hbw4 := hbw3.trans (hbX.mono hbw3.size)
              have hne : wr.heap.size ≠ bb := by have := kM.lt; omega
              obtain ⟨bx, hbx⟩ : ∃ bx, bx = wr.heap.size := ⟨_, rfl⟩
              rw [← hbx] at kX hne
              have HBx := Lib.hid hbx
              have cA := kA3.cell
              have lA := kA3.lt
              have cB2 := kB3.cell
              have lB := kB3.lt
              clear hbx hv hbX kM hbw3 kA3 kB3
              go_upto_region 21 with fail
              rw [← HBx.out]
              revert kX kM2 kA4 hbw4
              generalize wr.alloc (.cells #[.int .i64 (a1 + s - b2), .int .i64 a1, .int .i64 b2] 92) = wx
              rw [← HV0.out]
              intro kM2 kA4 hbw4 kX
              clear cA lA cB2 lB HBx
              have cX := kX.cell
              have lX := kX.lt
              have cM := kM2.cell
              have lM := kM2.lt
              have hu := Lib.hid (cw_or cw v a1 b2)
              obtain ⟨q1, hq1⟩ : ∃ q, cmpI cw.most v = q := ⟨_, rfl⟩
              obtain ⟨q2, hq2⟩ : ∃ q, cmpI a1 cw.r = q := ⟨_, rfl⟩
              obtain ⟨q3, hq3⟩ : ∃ q, cmpI b2 cw.d = q := ⟨_, rfl⟩
              rw [hq1, hq2, hq3] at hu
              have N1 := Lib.hid (fun w => compare_any cw.most v w)
              have N2 := Lib.hid (fun w => compare_any a1 cw.r w)
              have N3 := Lib.hid (fun w => compare_any b2 cw.d w)
              rw [hq1] at N1
              rw [hq2] at N2
              rw [hq3] at N3
              clear hq1 hq2 hq3
              have hL := later_cell (w := wx)
              refine wp_region_fresh 16 [0, 1, 2, 3, 4, 5, 6, 7, 8, 9, 10, 11, 12, 13, 14] [(15, .cells #[.int .i64 q1, .int .i64 q2, .int .i64 q3] 3, fun b => .slice (some ⟨b, 0, none⟩) 3 3)] (by kernel_rfl) (by kernel_rfl) rfl ?_
              simp only [List.map_cons, List.map_nil, List.getElem?_toArray, List.getElem?_cons_zero, List.getElem?_cons_succ, Option.getD_some, List.drop_succ_cons, List.drop_zero]
              iterate 4 (refine wpGrow_step (fun K hK => ?_); go_simp; refine hK _ ?_; clear hK K)
              refine wpGrow_step (fun K hK => ?_)
              go_simp
              refine ⟨.int .i64 q1, fun x => (N1.out x.val).mono (by rintro e w' ⟨rfl, rfl⟩; exact ⟨rfl, Below.refl _ _⟩), hK _ ?_⟩
              clear hK K
              iterate 4 (refine wpGrow_step (fun K hK => ?_); go_simp; refine hK _ ?_; clear hK K)
              refine wpGrow_step (fun K hK => ?_)
              go_simp
              refine ⟨.int .i64 q2, fun x => (N2.out x.val).mono (by rintro e w' ⟨rfl, rfl⟩; exact ⟨rfl, Below.refl _ _⟩), hK _ ?_⟩
              clear hK K
              iterate 4 (refine wpGrow_step (fun K hK => ?_); go_simp; refine hK _ ?_; clear hK K)
              refine wpGrow_step (fun K hK => ?_)
              go_simp
              refine ⟨.int .i64 q3, fun x => (N3.out x.val).mono (by rintro e w' ⟨rfl, rfl⟩; exact ⟨rfl, Below.refl _ _⟩), hK _ ?_⟩
              clear hK K
              refine wpGrow_nil ?_
              refine ⟨_, rfl, rfl, fun x => by go_simp, fun b15 => ?_⟩
              intro w2 hb2 hl2 _
              obtain ⟨l15, g15, h15⟩ := hl2 (b15, .cells #[.int .i64 q1, .int .i64 q2, .int .i64 q3] 3) (by simp)
              clear hl2 hL N1 N2 N3 cX lX cM lM
              simp only at l15 g15 h15
              have kM5 := kM2.later hb2
              have kX5 := kX.later hb2
              have kA5 := kA4.later hb2
              have hbw5 := hbw4.trans (hb2.mono hbw4.size)
              have hOr := Lib.hid (Or_any (some ⟨b15, 0, none⟩) 3 3 [q1, q2, q3] w2 (RowH.of_row (n := 3) (RowB.of (show Blk w2 b15 3 (rowc [q1, q2, q3]) from h15)) rfl) (by omega))
              obtain ⟨q, hq⟩ : ∃ q, orF [q1, q2, q3] = q := ⟨_, rfl⟩
              rw [hq] at hOr hu
              have hu2 := hu.out
              clear hq hb2 kM2 kX kA4 hbw4 h15 hu
              simp only [Act.put, List.setIfInBounds_toArray]
              go_wp2_with fail
              refine hOr.out.mono ?_
              rintro e w3 ⟨rfl, rfl⟩
              clear hOr
              have cX := kX5.cell
              have lX := kX5.lt
              have cM := kM5.cell
              have lM := kM5.lt
              have fM := kM5.frozen
              by_cases hsp : s > 0
              · have hs2 : decide (s > 0) = true := decide_eq_true hsp
                have HTk : Hid (cw.takes v a1 b2 → cw.step s a1 b2 = ⟨true, v, a1, b2⟩) := fun h => by
                  unfold Cw.step
                  rw [HV0.out] at h ⊢
                  exact if_pos ⟨hsp, h⟩
                cases hany : cw.any
                · have HS2 := Lib.hid (HTk.out (.inl hany))
                  clear HTk
                  go_wp2_with fail
                  go_roundw
                  case rel => exact ⟨k + 1, by omega, by go_num, by rw [HSt.out, HS2.out]; exact ⟨rfl, kM5.set3⟩, kA5.far3 hba2, below3 hbw5 hbw⟩
                  case measure => simp [intOf]; omega
                · by_cases hq : q < 0
                  · have hq2 : decide (q < 0) = true := decide_eq_true hq
                    rw [hq2] at hu2
                    have HS2 := Lib.hid (HTk.out (.inr (of_decide_eq_true hu2.symm)))
                    clear HTk hu2
                    go_wp2_with fail
                    go_roundw
                    case rel => exact ⟨k + 1, by omega, by go_num, by rw [HSt.out, HS2.out]; exact ⟨rfl, kM5.set3⟩, kA5.far3 hba2, below3 hbw5 hbw⟩
                    case measure => simp [intOf]; omega
                  · have hq2 : decide (q < 0) = false := decide_eq_false hq
                    rw [hq2] at hu2
                    have HS2 : Hid (cw.step s a1 b2 = cw) := by
                      show _ = _
                      unfold Cw.step
                      refine if_neg fun h => ?_
                      have h2 := h.2
                      unfold Cw.takes at h2
                      rw [← HV0.out] at h2
                      rcases h2 with h2 | h2
                      · rw [hany] at h2; cases h2
                      · exact of_decide_eq_false hu2.symm h2
                    clear HTk hu2
                    go_wp2_with fail
                    go_roundw
                    case rel => exact ⟨k + 1, by omega, by go_num, by rw [HSt.out, HS2.out]; exact ⟨by rw [hany], kM5⟩, kA5, hbw5⟩
                    case measure => simp [intOf]; omega
              · have hs2 : decide (s > 0) = false := decide_eq_false hsp
                have HS2 : Hid (cw.step s a1 b2 = cw) := by show _ = _; unfold Cw.step; rw [if_neg (fun h => hsp h.1)]
                go_wp2_with fail
                go_roundw
                case rel => exact ⟨k + 1, by omega, by go_num, by rw [HSt.out, HS2.out]; exact ⟨rfl, kM5⟩, kA5, hbw5⟩
                case measure => simp [intOf]; omega
        · obtain rfl : k = n := by omega
          have hbk : decide ((k : Int) < (k : Int)) = false := by simp
          have HM := Lib.hid hM
          clear kA hM
          go_wp2_with fail
          go_roundw
          case rel => exact ⟨i + 1, by omega, by go_num, HM.out, hb⟩
          case measure => simp [intOf]; omega
    · obtain rfl : i = n := by omega
      have hbt : decide ((i : Int) < (i : Int)) = false := by simp
      have cM := hM.2.cell
      have lM := hM.2.lt
      have hbf := Lib.hid hb
      go_wp2_with fail
      go_quiet (fail)
      go_wp2_with fail
      (try simp only [Exit.inBlock, Exit.then]); refine bodyPost_ret (results_tmp3 rfl _ _ _) rfl ?_
      exact ⟨rfl, hbf.out.trans ((below_drewN (Below.refl _ _) _).mono hbf.out.size)⟩
end Go.Proofs.Ytnfcigbiebbjdaa
