/-
  The walk of the law on Johnson's order.
  No conditions.
-/
import Derived.Test.YtnfcigbiebbjdaaOrders
import Derived.Deep.RegionHeld3
namespace Go.Proofs.Ytnfcigbiebbjdaa
open Go.RowKit

/-- The two lists in the making. -/
def Both (w0 : World) (k : Nat) (va vb : Value) (wr : World) : Prop :=
  ∃ f s : List Int, wr.ownsRow w0.heap.size 3 1 va k (f.map (Value.int .i64)) ∧ wr.ownsRow w0.heap.size 3 1 vb k (s.map (Value.int .i64)) ∧ (∀ g, va.ownBlock = some g → vb.ownBlock ≠ some g) ∧ (∀ x ∈ f, 0 ≤ x ∧ x ≤ 10000) ∧ (∀ x ∈ s, 0 ≤ x ∧ x ≤ 10000) ∧ Below w0.heap.size w0 wr
theorem cell_keeps {w w' : World} {a : Addr} {v : Value} (hb : Below w.heap.size w w') (ha : a.block < w.heap.size) (h : w.cell? a = some v) : w'.cell? a = some v := by rw [hb.cell ha]; exact h
/-- One number more. -/
theorem own_snoc {w' : World} {base n : Nat} {v : Value} {l : List Int} {x : Int} (h : w'.ownsRow base 3 1 v (n + 1) (l.map (Value.int .i64) ++ [.int .i64 x])) : w'.ownsRow base 3 1 v (n + 1) ((l ++ [x]).map (Value.int .i64)) := by simpa using h
theorem all_snoc {l : List Int} {x : Int} (h : ∀ y ∈ l, 0 ≤ y ∧ y ≤ 10000) (h0 : 0 ≤ x) (h1 : x ≤ 10000) : ∀ y ∈ l ++ [x], 0 ≤ y ∧ y ≤ 10000 := fun y hy => by
  rcases List.mem_append.1 hy with hy | hy
  · exact h y hy
  · obtain rfl : y = x := by simpa using hy
    exact ⟨h0, h1⟩

set_option maxRecDepth 100000 in
set_option maxHeartbeats 8000000 in
theorem walk (A B C : Option Addr) (n c m d p e : Nat) (x y z : List Int) (w : World) (rA : RowI w A n x) (rB : RowI w B m y) (rC : RowI w C p z) :
    Calls Try.prog 4 #[.slice A n c, .slice B m d, .slice C p e] w fun e w' => e = .returned (.bool true) ∧ Below w.heap.size w w' := by
  go_enter Try.func4, Try.ntmps4
  go_wp2_with fail
  go_loopw [7, 8, 9] (fun a b i wr => ∃ (k : Nat), i = .int .i64 k ∧ k ≤ 30 ∧ Both w k a b wr) (fun _ _ i _ => 30 - (intOf i).toNat)
  case atStart =>
    have h0 : Below w.heap.size w (w.alloc (.cells #[] 3)) := (Below.refl _ _).alloc (Nat.le_refl _) _
    refine ⟨0, rfl, by omega, [], [], ?_, ?_, fun g hg => ?_, by simp, by simp, h0.alloc h0.size _⟩
    · exact (World.ownsRow_made (base := w.heap.size) (e := 3) (size := 1) w #[] 0 (by simp) (by unfold maxLen; omega) (by simp)).alloc _
    · have h := World.ownsRow_made (base := w.heap.size) (e := 3) (size := 1) (w.alloc (.cells #[] 3)) #[] 0 (by simp) (by unfold maxLen; omega) (by simp)
      rw [World.size_alloc] at h
      exact h
    · intro he
      simp [Value.ownBlock] at hg he
      omega
  case round =>
    obtain ⟨k, rfl, hk, hBo⟩ := hrel
    obtain ⟨va, hva⟩ : ∃ v, v = u7 := ⟨_, rfl⟩
    subst hva
    obtain ⟨vb, hvb⟩ : ∃ v, v = u8 := ⟨_, rfl⟩
    subst hvb
    by_cases hc : (k : Int) < (n : Int) ∧ (k : Int) < (m : Int) ∧ (k : Int) < 30
    · obtain ⟨c1, c2, c3⟩ := hc
      have h1 : decide ((k : Int) < (n : Int)) = true := by simpa using c1
      have h2 : decide ((k : Int) < (m : Int)) = true := by simpa using c2
      have h3 : decide ((k : Int) < 30) = true := by simpa using c3
      obtain ⟨f, s, hf, hs, hne, bf, bs, hb⟩ := hBo
      obtain ⟨ax, rfl, hax, cx0⟩ := rA.at_ (show k < n by omega)
      obtain ⟨ay, rfl, hay, cy0⟩ := rB.at_ (show k < m by omega)
      have hax' : (ax.add k).block < w.heap.size := by rw [add_block]; exact hax
      have hay' : (ay.add k).block < w.heap.size := by rw [add_block]; exact hay
      have cx := cell_keeps hb hax' cx0
      have cy := cell_keeps hb hay' cy0
      generalize x.getD k 0 = xv at *
      generalize y.getD k 0 = yv at *
      have M1 := fun w => Lib.hid (fold_any xv 10001 w (by omega) (by omega))
      have HM1 := Lib.hid M1
      have M2 := fun w => Lib.hid (fold_any yv 10001 w (by omega) (by omega))
      have HM2 := Lib.hid M2
      clear M1 M2
      have q1 := Int.emod_nonneg xv (show (10001 : Int) ≠ 0 by omega)
      have q2 := Int.emod_lt_of_pos xv (show (0 : Int) < 10001 by omega)
      have q3 := Int.emod_nonneg yv (show (10001 : Int) ≠ 0 by omega)
      have q4 := Int.emod_lt_of_pos yv (show (0 : Int) < 10001 by omega)
      have NX := Lib.hid (all_snoc bf q1 (show xv % 10001 ≤ 10000 by omega))
      have NY := Lib.hid (all_snoc bs q3 (show yv % 10001 ≤ 10000 by omega))
      clear bf bs q1 q2 q3 q4
      go_wp2_with fail
      refine wp_region_held_drew (S := fun V => V.cell? (ax.add k) = some (.int .i64 xv) ∧ V.cell? (ay.add k) = some (.int .i64 yv)) (by kernel_rfl) ⟨cx, cy⟩ (fun hHeld => ?_)
      refine wpAnyH_take (i := 0) (v := ?_) rfl (by kernel_rfl) (by kernel_rfl) (by kernel_rfl) (fun _ _ _ h => h) (Or.inl ⟨by rfl, ?hy⟩) (by assumption) ?_
      case hy => (intro w hSw; (try dsimp only at hSw); go_simp; try with_reducible rfl)
      refine wpAnyH_take (i := 1) (v := ?_) rfl (by kernel_rfl) (by kernel_rfl) (by kernel_rfl) (fun _ _ _ h => h) (Or.inl ⟨by rfl, ?hy⟩) (by assumption) ?_
      case hy => (intro w hSw; (try dsimp only at hSw); go_simp; try with_reducible rfl)
      refine wpAnyH_take (i := 2) (v := ?_) rfl (by kernel_rfl) (by kernel_rfl) (by kernel_rfl) (fun _ _ _ h => h) (Or.inl ⟨by rfl, ?hy⟩) (by assumption) ?_
      case hy => (intro w hSw; (try dsimp only at hSw); go_simp; try with_reducible rfl)
      refine wpAnyH_take (i := 3) (v := ?_) rfl (by kernel_rfl) (by kernel_rfl) (by kernel_rfl) (fun _ _ _ h => h) (Or.inl ⟨by rfl, ?hy⟩) (by assumption) ?_
      case hy => (intro w hSw; (try dsimp only at hSw); go_simp; try with_reducible rfl)
      refine wpAnyH_take (i := 4) (v := ?_) rfl (by kernel_rfl) (by kernel_rfl) (by kernel_rfl) (fun _ _ _ h => h) (Or.inl ⟨by rfl, ?hy⟩) (by assumption) ?_
      case hy => (intro w hSw; (try dsimp only at hSw); go_simp; try with_reducible rfl)
      refine wpAnyH_take (i := 8) (v := ?_) rfl (by kernel_rfl) (by kernel_rfl) (by kernel_rfl) (fun _ _ _ h => h) (Or.inl ⟨by rfl, ?hy⟩) (by assumption) ?_
      case hy => (intro w hSw; (try dsimp only at hSw); go_simp; try with_reducible rfl)
      refine wpAnyH_take (i := 9) (v := ?_) rfl (by kernel_rfl) (by kernel_rfl) (by kernel_rfl) (fun _ _ _ h => h) (Or.inl ⟨by rfl, ?hy⟩) (by assumption) ?_
      case hy => (intro w hSw; (try dsimp only at hSw); go_simp; try with_reducible rfl)
      refine wpAnyH_take (i := 10) (v := ?_) rfl (by kernel_rfl) (by kernel_rfl) (by kernel_rfl) (fun _ _ _ h => h) (Or.inl ⟨by rfl, ?hy⟩) (by assumption) ?_
      case hy => (intro w hSw; (try dsimp only at hSw); go_simp; try with_reducible rfl)
      refine wpAnyH_take (i := 11) (v := ?_) rfl (by kernel_rfl) (by kernel_rfl) (by kernel_rfl) (fun _ _ _ h => h) (Or.inl ⟨by rfl, ?hy⟩) (by assumption) ?_
      case hy => (intro w hSw; (try dsimp only at hSw); go_simp; try with_reducible rfl)
      refine wpAnyH_take (i := 12) (v := ?_) rfl (by kernel_rfl) (by kernel_rfl) (by kernel_rfl) (fun _ _ _ h => h) (Or.inl ⟨by rfl, ?hy⟩) (by assumption) ?_
      case hy => (intro w hSw; (try dsimp only at hSw); go_simp; try with_reducible rfl)
      simp only [Act.put, List.setIfInBounds_toArray]
      have hf1 := hf.drew
      have hs1 := hs.drew
      have hb1 := hb.drew
      clear hf hs hb cx cy
      refine wpAnyH_ready (rs := [5]) (by kernel_rfl) (by simp) (AllReadyH.cons rfl (fun K hK => ?_) AllReadyH.nil)
      go_simp
      refine (HM1.out _).out.mono ?_
      rintro e w' ⟨rfl, rfl⟩
      refine hK.out _ _ hHeld (fun _ => ?_)
      clear hK K
      generalize xv % 10001 = xf at *
      refine wpAnyH_ready (rs := [6]) (by kernel_rfl) (by simp) (AllReadyH.cons rfl (fun K hK => ?_) AllReadyH.nil)
      go_simp
      have hb2 := hb1.alloc hb1.size (.cells #[.int .i64 xf] 3)
      refine hK.out _ _ ⟨cell_keeps hb2 hax' cx0, cell_keeps hb2 hay' cy0⟩ (fun _ => ?_)
      clear hK K
      have hf2 := hf1.alloc (.cells #[.int .i64 xf] 3)
      have hs2 := hs1.alloc (.cells #[.int .i64 xf] 3)
      obtain ⟨i0, hi, hz0, hz1, hz2⟩ := info_parts info3
      have HI := Lib.hid (And.intro hi (And.intro hz0 (And.intro hz1 hz2)))
      clear hi hz0 hz1 hz2
      have hone : ∀ (q : Int), ∀ u ∈ [Value.int .i64 q], u.oneCell' = true := fun q u hu => by
        obtain rfl : u = .int .i64 q := by simpa using hu
        rfl
      have hnew : ∀ (V : World) (q : Int), ∀ j u, ([.int .i64 q] : List Value)[j]? = some u → (V.alloc (.cells #[.int .i64 q] 3)).cell? ((⟨V.heap.size, 0, none⟩ : Addr).add j) = some u := fun V q j u hj => by
        have := (Blk.new V 3 #[.int .i64 q]).cell j
        rw [Addr.add_lit, Nat.zero_add, this, ← hj, List.getElem?_toArray]
      have HNEW := Lib.hid hnew
      have HONE := Lib.hid hone
      clear hnew hone hf1 hs1 hb1
      refine wpAnyH_ready (rs := [7]) (by kernel_rfl) (by simp) (AllReadyH.cons rfl (fun K hK => ?_) AllReadyH.nil)
      refine step_append_lies _ rfl (.tmp 38) (.tmp 44) 23 rfl w.heap.size 3 i0 (.int .i64 0) 1 8 Try.underlying23 HI.out.1 HI.out.2.1 HI.out.2.2.1 HI.out.2.2.2 rfl (by decide) va k _ rfl hf2 ⟨wr.drew.heap.size, 0, none⟩ 1 1 [.int .i64 xf] rfl rfl (HNEW.out _ _) (HONE.out _) (by omega) (by unfold maxLen; omega) (by omega) hb2.size _ rfl ?_
      intro g1 cap1 w7 hown7 hgr7 hat7 _
      have hb3 := hb2.grown hgr7 hb2.size (fun q hq => (hf2.lt q hq).1)
      have hvb : vb.ownBlock = none ∨ vb.ownBlock ≠ va.ownBlock := by
        cases hv : vb.ownBlock with
        | none => exact .inl rfl
        | some gb => exact .inr fun he => hne gb he.symm hv
      have hs3 := hs2.kept hgr7 hvb
      have hn3 : vb.ownBlock ≠ some g1 := by
        rcases hat7 with h | h
        · exact hne g1 h
        · intro he
          have := (hs2.lt g1 he).2
          rw [h] at this
          exact absurd this (Nat.lt_irrefl _)
      refine hK.out _ _ ⟨cell_keeps hb3 hax' cx0, cell_keeps hb3 hay' cy0⟩ (fun hHeld => ?_)
      clear hK K hf2 hs2 hb2 hgr7 hat7 hvb hne
      refine wpAnyH_ready (rs := [13]) (by kernel_rfl) (by simp) (AllReadyH.cons rfl (fun K hK => ?_) AllReadyH.nil)
      go_simp
      refine (HM2.out _).out.mono ?_
      rintro e w' ⟨rfl, rfl⟩
      refine hK.out _ _ hHeld (fun _ => ?_)
      clear hK K hHeld
      generalize yv % 10001 = yf at *
      refine wpAnyH_ready (rs := [14]) (by kernel_rfl) (by simp) (AllReadyH.cons rfl (fun K hK => ?_) AllReadyH.nil)
      go_simp
      have hb4 := hb3.alloc hb3.size (.cells #[.int .i64 yf] 3)
      refine hK.out _ _ ⟨cell_keeps hb4 hax' cx0, cell_keeps hb4 hay' cy0⟩ (fun _ => ?_)
      clear hK K
      have hf4 := hown7.alloc (.cells #[.int .i64 yf] 3)
      have hs4 := hs3.alloc (.cells #[.int .i64 yf] 3)
      clear hs3 hown7 hb3
      refine wpAnyH_ready (rs := [15]) (by kernel_rfl) (by simp) (AllReadyH.cons rfl (fun K hK => ?_) AllReadyH.nil)
      refine step_append_lies _ rfl (.tmp 46) (.tmp 52) 23 rfl w.heap.size 3 i0 (.int .i64 0) 1 8 Try.underlying23 HI.out.1 HI.out.2.1 HI.out.2.2.1 HI.out.2.2.2 rfl (by decide) vb k _ rfl hs4 ⟨w7.heap.size, 0, none⟩ 1 1 [.int .i64 yf] rfl rfl (HNEW.out _ _) (HONE.out _) (by omega) (by unfold maxLen; omega) (by omega) hb4.size _ rfl ?_
      intro g2 cap2 w8 hown8 hgr8 hat8 _
      have hb5 := hb4.grown hgr8 hb4.size (fun q hq => (hs4.lt q hq).1)
      have hf5 := hf4.kept hgr8 (.inr fun he => hn3 he.symm)
      have hn5 : g1 ≠ g2 := by
        rintro rfl
        rcases hat8 with h | h
        · exact hn3 h
        · have := (hf4.lt g1 rfl).2
          omega
      refine hK.out _ _ ⟨cell_keeps hb5 hax' cx0, cell_keeps hb5 hay' cy0⟩ (fun hHeld => ?_)
      clear hK K hf4 hs4 hb4 hgr8 hat8 hn3
      refine wpAnyH_ready (rs := [16]) (by kernel_rfl) (by simp) (AllReadyH.cons rfl (fun K hK => ?_) AllReadyH.nil)
      go_simp
      refine hK.out _ _ hHeld (fun _ => ?_)
      clear hK K
      refine wpAnyH_ready (rs := [17]) (by kernel_rfl) (by simp) (AllReadyH.cons rfl (fun K hK => ?_) AllReadyH.nil)
      go_simp
      refine hK.out _ _ hHeld (fun _ => ?_)
      clear hK K hHeld
      refine wpAnyH_done (by kernel_rfl) ?_ _
      have HB : Hid (Both w (k + 1) (.slice (some ⟨g1, 0, none⟩) (k + 1) cap1) (.slice (some ⟨g2, 0, none⟩) (k + 1) cap2) w8) :=
        ⟨f ++ [xf], s ++ [yf], own_snoc hf5, own_snoc hown8, fun g hg => by simp [Value.ownBlock] at hg ⊢; omega, NX.out, NY.out, hb5⟩
      clear hf5 hown8 hb5 NX NY HI HNEW HONE HM1 HM2
      go_wp2_with fail
      go_roundw
      case rel => exact ⟨k + 1, by go_num, by omega, HB.out⟩
      case measure => simp [intOf]; omega
    · have hcase : (decide ((k : Int) < (n : Int)) = false ∧ ¬ (k : Int) < (n : Int)) ∨ (decide ((k : Int) < (n : Int)) = true ∧ (k : Int) < (n : Int) ∧ decide ((k : Int) < (m : Int)) = false ∧ ¬ (k : Int) < (m : Int)) ∨
          (decide ((k : Int) < (n : Int)) = true ∧ (k : Int) < (n : Int) ∧ decide ((k : Int) < (m : Int)) = true ∧ (k : Int) < (m : Int) ∧ decide ((k : Int) < 30) = false ∧ ¬ (k : Int) < 30) := by
        simp only [decide_eq_true_eq, decide_eq_false_iff_not]; omega
      clear hc
      rcases hcase with ⟨c1, c1'⟩ | ⟨c1, c1', c2, c2'⟩ | ⟨c1, c1', c2, c2', c3, c3'⟩
      all_goals
        obtain ⟨f, s, hf, hs, hne, bf, bs, hb⟩ := hBo
        obtain ⟨A', c', rfl⟩ := own_slice hf
        obtain ⟨B', d', rfl⟩ := own_slice hs
        have rF := own_rowH hf
        have rS := own_rowH hs
        have SF := Lib.hid (small_lit bf)
        have SS := Lib.hid (small_lit bs)
        have J1 := Lib.hid (Johnson_yes A' B' k c' d' f s wr rF rS SF.out SS.out (by omega))
        clear hf hs hne bf bs
        go_wp2_with fail
        refine J1.out.mono ?_
        rintro e1 w2 ⟨R, o, rfl, hP, hS, hR, hb2⟩
        have HP := Lib.hid hP
        have hbef : o.Pairwise (Before f s) := hS.imp (fun h => john_le f s h)
        have HBf := Lib.hid hbef
        have HOr := Lib.hid (isOrd_of_perm hP)
        obtain ⟨n1, hn1⟩ : ∃ n1, n1 = lenF f s 0 0 o := ⟨_, rfl⟩
        rw [← hn1]
        have HN1 := Lib.hid hn1
        have hin : ∀ q ∈ o, 0 ≤ q ∧ q < (k : Int) := fun q hq => mem_nums.1 (hP.mem_iff.1 hq)
        have HIn := Lib.hid hin
        have rF2 := rF.later hb2
        have rS2 := rS.later hb2
        have rC2 := rC.later (hb.trans (hb2.mono hb.size))
        have hw2 := hb.trans (hb2.mono hb.size)
        have O1 := Lib.hid (Order_yes (some ⟨R, 0, none⟩) k k o w2 hR HOr.out (by omega))
        clear J1 hP hS hbef hn1 hin rF rS hb hb2
        have t1 : ((n1 : Int) != n1) = false := by simp
        go_wp2_with fail
        refine O1.out.mono ?_
        rintro e2 w3 ⟨rfl, hb3⟩
        have hR3 := hR.later hb3
        have rF3 := rF2.later hb3
        have rS3 := rS2.later hb3
        have rC3 := rC2.later hb3
        have hw3 := hw2.trans (hb3.mono hw2.size)
        have L1 := Lib.hid (rLength_any A' B' (some ⟨R, 0, none⟩) k c' d' k k f s o w3 rF3 rS3 hR3 SF.out SS.out HIn.out (by omega))
        rw [← HN1.out] at L1
        have X1 := Lib.hid (mixed_any (some ⟨R, 0, none⟩) C k k p e o z w3 hR3 rC3 (by omega))
        clear O1 hR rF2 rS2 rC2 hw2 hb3
        go_wp2_with fail
        refine L1.out.mono ?_
        rintro e3 w' ⟨rfl, rfl⟩
        go_wp2_with fail
        refine X1.out.mono ?_
        rintro e4 w4 ⟨D, cd, o2, rfl, hP2, hR2, hb4⟩
        have hR4 := hR3.later hb4
        have rF4 := rF3.later hb4
        have rS4 := rS3.later hb4
        have hw4 := hw3.trans (hb4.mono hw3.size)
        have L2 := Lib.hid (rLength_any A' B' D k c' d' k cd f s o2 w4 rF4 rS4 hR2 SF.out SS.out (fun q hq => HIn.out q (hP2.mem_iff.1 hq)) (by omega))
        have hle := johnson_least f s o o2 0 0 HBf.out hP2
        rw [← HN1.out] at hle
        generalize lenF f s 0 0 o2 = n2 at *
        have t2 : decide (n2 < n1) = false := by simp; omega
        have t2i : ¬ n2 < n1 := by omega
        clear X1 L1 hR3 rF3 rS3 rC3 hw3 hb4 hP2 hR2 hle
        go_wp2_with fail
        refine L2.out.mono ?_
        rintro e5 w' ⟨rfl, rfl⟩
        go_wp2_with fail
        refine (lives_any _).mono ?_
        rintro e6 w5 ⟨rfl, hb5⟩
        have hR5 := hR4.later hb5
        have rF5 := rF4.later hb5
        have rS5 := rS4.later hb5
        have hw5 := hw4.trans (hb5.mono hw4.size)
        have J2 := Lib.hid (Johnson_yes B' A' k d' c' s f w5 rS5 rF5 SS.out SF.out (by omega))
        clear L2 hR4 rF4 rS4 hw4 hb5 t2 t2i
        go_wp2_with fail
        refine J2.out.mono ?_
        rintro e7 w6 ⟨R2, o', rfl, hP3, hS3, hR6, hb6⟩
        have rF6 := rF5.later hb6
        have rS6 := rS5.later hb6
        have hw6 := hw5.trans (hb6.mono hw5.size)
        have HP3 := Lib.hid hP3
        have hbef2 : o'.Pairwise (Before s f) := hS3.imp (fun h => john_le s f h)
        have nF : ∀ i, 0 ≤ iat f i := fun i => (SF.out i).1
        have nS : ∀ i, 0 ≤ iat s i := fun i => (SS.out i).1
        have hm1 : lenF s f 0 0 o' = n1 := by
          have a1 := johnson_least f s o o'.reverse 0 0 HBf.out ((List.reverse_perm o').trans (HP3.out.trans HP.out.symm))
          rw [len_round f s nF nS o', ← HN1.out] at a1
          have a2 := johnson_least s f o' o.reverse 0 0 hbef2 ((List.reverse_perm o).trans (HP.out.trans HP3.out.symm))
          rw [len_round s f nS nF o, ← HN1.out] at a2
          omega
        have hback : lenF f s 0 0 o'.reverse = n1 := by rw [len_round f s nF nS o', hm1]
        rw [hm1]
        have HBk := Lib.hid hback
        clear J2 hP3 hS3 hbef2 nF nS hm1 hback hR5 rF5 rS5 hw5 hb6
        have hmk : (w6.alloc (.cells #[] 3)).ownsRow w6.heap.size 3 1 (.slice (some ⟨w6.heap.size, 0, none⟩) 0 0) 0 (([] : List Int).map (Value.int .i64)) := World.ownsRow_made (base := w6.heap.size) (e := 3) (size := 1) w6 #[] 0 (by simp) (by unfold maxLen; omega) (by simp)
        have hmb : Below w6.heap.size w6 (w6.alloc (.cells #[] 3)) := (Below.refl _ _).alloc (Nat.le_refl _) _
        have hol : o'.length = k := by rw [HP3.out.length_eq, nums_length]
        go_wp2_with fail
        go_loopw [16, 17] (fun b i wr => ∃ (j : Nat), j ≤ k ∧ i = .int .i64 ((j : Int) - 1) ∧ wr.ownsRow w6.heap.size 3 1 b (k - j) ((o'.drop j).reverse.map (Value.int .i64)) ∧ Below w6.heap.size w6 wr) (fun _ i _ => (intOf i + 1).toNat)
        case atStart => exact ⟨k, Nat.le_refl _, rfl, by rw [Nat.sub_self, List.drop_of_length_le (by omega)]; exact hmk, hmb⟩
        case round =>
          clear hmk hmb
          obtain ⟨j, hj, rfl, hown, hbb⟩ := hrel
          obtain ⟨v, hv⟩ : ∃ v, v = u16 := ⟨_, rfl⟩
          subst hv
          by_cases hj0 : 0 < j
          · obtain ⟨t, rfl⟩ : ∃ t, j = t + 1 := ⟨j - 1, by omega⟩
            have ej : (((t + 1 : Nat) : Int) - 1) = (t : Int) := by omega
            rw [ej]
            obtain ⟨gg, e1, hgg, hcc⟩ := (hR6.later hbb).at_ (show t < k by omega)
            cases e1
            have hox : o'[t]? = some (o'.getD t 0) := getD_get (by omega)
            generalize o'.getD t 0 = xx at *
            have hdr := Lib.hid (drop_step hox)
            have hge : decide ((t : Int) ≥ 0) = true := by simp
            have htk : (t : Int) < (k : Int) := by omega
            have hz1 := hbb.alloc hbb.size (.cells #[.int .i64 xx] 3)
            have hm1 := hown.alloc (.cells #[.int .i64 xx] 3)
            have hri : RowI (wr.alloc (.cells #[.int .i64 xx] 3)) (some ⟨wr.heap.size, 0, none⟩) 1 [xx] := (row_lit wr [xx] 1 rfl).rowI
            clear hox ej hown
            go_wp2_with (at_builtin; refine app_ints _ rfl (.tmp 107) (.tmp 112) rfl w6.heap.size v (k - (t + 1)) (o'.drop (t + 1)).reverse rfl hm1 (some ⟨wr.heap.size, 0, none⟩) 1 1 [xx] rfl hri (by omega) hz1.size ?_)
            intro v2 w8 hown8 hgr8
            have hz2 := hz1.grown hgr8 hz1.size (fun q hq => (hm1.lt q hq).1)
            have hown9 : Hid (w8.ownsRow w6.heap.size 3 1 v2 (k - t) ((o'.drop t).reverse.map (Value.int .i64))) := by
              show w8.ownsRow _ _ _ _ _ _
              rw [hdr.out, List.reverse_cons, show k - t = k - (t + 1) + 1 by omega]
              simpa using hown8
            clear hown8 hgr8 hz1 hm1 hri hcc hgg
            go_wp2_with fail
            go_roundw
            case rel => exact ⟨t, by omega, by first | rfl | go_num, hown9.out, hz2⟩
            case measure => simp [intOf]
          · obtain rfl : j = 0 := by omega
            rw [Nat.sub_zero, List.drop_zero] at hown
            obtain ⟨E', ce, rfl⟩ := own_slice hown
            have hRb := own_rowH hown
            have hR7 := hR6.later hbb
            have rF7 := rF6.later hbb
            have rS7 := rS6.later hbb
            have hw7 := hw6.trans (hbb.mono hw6.size)
            have O2 := Lib.hid (Order_yes (some ⟨R2, 0, none⟩) k k o' wr hR7 (isOrd_of_perm HP3.out) (by omega))
            have hge : decide (((0 : Nat) : Int) - 1 ≥ 0) = false := by decide
            clear hown hbb
            go_wp2_with fail
            refine O2.out.mono ?_
            rintro e8 w8 ⟨rfl, hb8⟩
            have hRb8 := hRb.later hb8
            have rF8 := rF7.later hb8
            have rS8 := rS7.later hb8
            have hw8 := hw7.trans (hb8.mono hw7.size)
            have L3 := Lib.hid (rLength_any A' B' E' k c' d' k ce f s o'.reverse w8 rF8 rS8 hRb8 SF.out SS.out (fun q hq => mem_nums.1 (HP3.out.mem_iff.1 (List.mem_reverse.1 hq))) (by omega))
            rw [HBk.out] at L3
            clear O2 hRb hR7 rF7 rS7 hw7 hb8
            go_wp2_with fail
            refine L3.out.mono ?_
            rintro e9 w' ⟨rfl, rfl⟩
            by_cases h5 : 5 < k
            · have d5 : decide ((k : Int) > 5) = true := by simp; omega
              have d5i : (5 : Int) < (k : Int) := by omega
              go_wp2_with fail
              go_ret
              exact ⟨rfl, hw8⟩
            · have d5 : decide ((k : Int) > 5) = false := by simp; omega
              have d5i : ¬ (5 : Int) < (k : Int) := by omega
              go_wp2_with fail
              refine (Orders_any k _ (by omega)).mono ?_
              rintro e10 w9 ⟨v, N, rfl, hN, vs, LL, hvs, hown, hrows, hord, hb9⟩
              have HRw := Lib.hid hrows
              have HOd := Lib.hid hord
              obtain ⟨G, cG, rfl⟩ := own_slice hown
              have rF9 := rF8.later hb9
              have rS9 := rS8.later hb9
              have hw9 := hw8.trans (hb9.mono hw8.size)
              clear hrows hord hb9 L3 rF8 rS8 hw8
              go_wp2_with fail
              go_loopw [19] (fun i wr => ∃ q : Nat, q ≤ N ∧ i = .int .i64 q ∧ w9 = wr) (fun i _ => N - (intOf i).toNat)
              case atStart => exact ⟨0, Nat.zero_le _, rfl, rfl⟩
              case round =>
                obtain ⟨q, hq, rfl, rfl⟩ := hrel
                by_cases hqN : q < N
                · have hbq : decide ((q : Int) < (N : Int)) = true := by simp; omega
                  have hbq2 : (q : Int) < (N : Int) := by omega
                  obtain ⟨l, hl⟩ : ∃ l, LL[q]? = some l := ⟨_, List.getElem?_eq_getElem (by rw [← HRw.out.1, hvs]; exact hqN)⟩
                  obtain ⟨v, hv, hir⟩ := HRw.out.2 q l hl
                  obtain ⟨B2, c2, rfl, hlc, hBr⟩ := hir.row
                  have hlp := HOd.out l (List.mem_of_getElem? hl)
                  obtain ⟨g2, cap2, e1, hg1, hg2⟩ := hown.form (by omega)
                  cases e1
                  have hcell := hown.cellAt q (by omega)
                  rw [hv] at hcell
                  have hll : l.length = k := by rw [hlp.length_eq, nums_length]
                  rw [hll] at hBr hcell
                  have L4 := Lib.hid (rLength_any A' B' (some ⟨B2, 0, none⟩) k c' d' k c2 f s l w9 rF9 rS9 hBr SF.out SS.out (fun q hq => mem_nums.1 (hlp.mem_iff.1 hq)) (by omega))
                  have hle := johnson_least f s o l 0 0 HBf.out (hlp.trans HP.out.symm)
                  rw [← HN1.out] at hle
                  generalize lenF f s 0 0 l = n3 at *
                  have t3 : decide (n3 < n1) = false := by simp; omega
                  have t3i : ¬ n3 < n1 := by omega
                  clear hv hir hlp hl hle hBr hll hlc
                  go_wp2_with fail
                  refine L4.out.mono ?_
                  rintro e11 w' ⟨rfl, rfl⟩
                  go_wp2_with fail
                  go_roundw
                  case rel => exact ⟨q + 1, by omega, by go_num, trivial⟩
                  case measure => simp [intOf]; omega
                · obtain rfl : q = N := by omega
                  have hbq : decide ((q : Int) < (q : Int)) = false := by simp
                  go_wp2_with fail
                  go_ret
                  exact ⟨rfl, hw9⟩
end Go.Proofs.Ytnfcigbiebbjdaa
