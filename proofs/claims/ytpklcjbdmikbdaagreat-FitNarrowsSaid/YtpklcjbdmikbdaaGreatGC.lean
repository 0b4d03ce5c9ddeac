/-
  The seat's texts CntD in one: the contracts of the functions that the law reaches, and the plain laws that they rest on.
  Conditions: as each theorem states them.
-/
import Derived.Test.YtpklcjbdmikbdaaGreatGL
import Derived.Test.YtpklcjbdmikbdaaGreatGG
namespace Go.Proofs.YtpklcjbdmikbdaaGreat
set_option maxRecDepth 100000
open Go.RowKit

set_option maxHeartbeats 16000000 in
theorem rCount_any (lo hi : Int) : ∀ (ps : List Prt) (A : Option Addr) (n c : Nat) (gap : Int) (w : World), PartsA w A n ps → okPs ps → n ≤ 8 → n ≤ c → -(1000000 * (8 - n : Int)) ≤ gap → gap ≤ 1000000 * (8 - n : Int) →
    Calls Tryz.prog 11 #[.slice A n c, .agg #[.int .i64 lo, .int .i64 hi], .int .i64 gap] w fun e w' => e = .returned (.int .i64 ((cntR lo hi ps gap : Nat) : Int)) ∧ Below w.heap.size w w' := by
  intro ps
  induction ps with
  | nil =>
    intro A n c gap w hP _ _ _ _ _
    obtain rfl : n = 0 := hP.1.symm
    have hb1 : Below w.heap.size w (w.alloc (.cells #[.int .i64 lo, .int .i64 hi] 24)) := (Below.refl _ _).alloc (Nat.le_refl _) _
    have k1 := Blk.new w 24 #[.int .i64 lo, .int .i64 hi]
    have HI := Lib.hid fun V => rin_any gap lo hi V
    have HC : Hid (cntR lo hi [] gap = if lo ≤ gap ∧ gap ≤ hi then 1 else 0) := rfl
    have cA := k1.cell
    have lA := k1.lt
    clear hP
    by_cases hin : lo ≤ gap ∧ gap ≤ hi
    · rw [show (decide (lo ≤ gap) && decide (gap ≤ hi)) = true by simpa using hin] at HI
      have HC2 : Hid (cntR lo hi [] gap = 1) := by show _ = _; rw [HC.out, if_pos hin]
      rw [HC2.out]
      clear hin HC
      go_enter Tryz.func11, Tryz.ntmps11
      go_wp2_with fail
      refine (HI.out _).mono ?_
      rintro e w2 ⟨rfl, rfl⟩
      go_wp2_with fail
      go_ret
      exact ⟨rfl, hb1⟩
    · rw [show (decide (lo ≤ gap) && decide (gap ≤ hi)) = false by simpa using hin] at HI
      have HC2 : Hid (cntR lo hi [] gap = 0) := by show _ = _; rw [HC.out, if_neg hin]
      rw [HC2.out]
      clear hin HC
      go_enter Tryz.func11, Tryz.ntmps11
      go_wp2_with fail
      refine (HI.out _).mono ?_
      rintro e w2 ⟨rfl, rfl⟩
      go_wp2_with fail
      go_ret
      exact ⟨rfl, hb1⟩
  | cons p ps ih =>
    intro A n c gap w hP hok hn hc hg1 hg2
    obtain ⟨m, rfl⟩ : ∃ m, n = m + 1 := ⟨ps.length, by rw [← hP.1]; rfl⟩
    obtain ⟨a, rfl, ha, hcell⟩ := hP.2 (by omega)
    have hp0 : PartAny w a p := by
      have := hcell 0 p rfl
      rwa [Nat.zero_mul, show a.add 0 = a by unfold Addr.add; rw [if_pos rfl]] at this
    have hpok := hok p (by simp)
    have hwd := wd_int hpok
    obtain ⟨po1, po2, po3, po4⟩ := hpok
    have HTL : Hid (∀ V, Below w.heap.size w V → ∀ A', (A' = some (a.add 3) ∨ m = 0) → PartsA V A' m ps) := fun V hV A' h => by
      refine PartsA.later ⟨by have := hP.1; simpa using this, fun h0 => ?_⟩ hV
      have e := h.resolve_right (by omega)
      refine ⟨a.add 3, e, by rw [add_block]; exact ha, fun k q hk => ?_⟩
      have := hcell (k + 1) q (by simpa using hk)
      rw [Addr.add_add, show 3 + k * 3 = (k + 1) * 3 by omega]
      exact this
    have HIH : Hid (∀ (V : World) (A' : Option Addr) (c' : Nat) (g : Int), Below w.heap.size w V → (A' = some (a.add 3) ∨ m = 0) → m ≤ c' → -(1000000 * (8 - m : Int)) ≤ g → g ≤ 1000000 * (8 - m : Int) → Calls Tryz.prog 11 #[.slice A' m c', .agg #[.int .i64 lo, .int .i64 hi], .int .i64 g] V fun e w' => e = .returned (.int .i64 ((cntR lo hi ps g : Nat) : Int)) ∧ Below V.heap.size V w') := fun V A' c' g hV hA hc' h1 h2 => ih A' m c' g V (HTL.out V hV A' hA) (fun q hq => hok q (by simp [hq])) (by omega) hc' h1 h2
    have HB : Hid (widN (p :: ps) ≤ 10828567056280801) := widN_le hok (by rw [hP.1]; exact hn)
    have HPA : Hid (∀ V, Below w.heap.size w V → PartAny V a p) := fun V hV => hp0.later ha hV
    have hb1 : Below w.heap.size w (w.alloc (.cells #[.int .i64 lo, .int .i64 hi] 24)) := (Below.refl _ _).alloc (Nat.le_refl _) _
    have k1 := Blk.new w 24 #[.int .i64 lo, .int .i64 hi]
    have HAB : Hid (∀ V, Below w.heap.size w V → a.block < V.heap.size) := fun V hV => Nat.lt_of_lt_of_le ha hV.size
    obtain ⟨q1, q2, q3⟩ := HPA.out _ hb1
    have qb := HAB.out _ hb1
    obtain ⟨c0, rfl⟩ : ∃ c0, c = c0 + 1 := ⟨c - 1, by omega⟩
    rcases Nat.eq_zero_or_pos c0 with h0 | h0
    · obtain rfl : m = 0 := by omega
      subst h0
      show Calls Tryz.prog 11 #[.slice (some a) 1 1, .agg #[.int .i64 lo, .int .i64 hi], .int .i64 gap] w _
      clear hP hok hcell hp0 ih ha
      go_enter Tryz.func11, Tryz.ntmps11
      go_upto_region 7 with fail
      clear q1 q2 q3 qb
      have HALL := And.intro k1 hb1
      clear k1 hb1
      revert HALL
      generalize w.alloc (.cells #[.int .i64 lo, .int .i64 hi] 24) = w1
      generalize hNe : w.heap.size = N
      intro HALL
      obtain ⟨k1, hb1⟩ := HALL
      have HNe := Lib.hid hNe
      have hsz := hb1.size
      rw [hNe] at hsz
      clear hNe
      go_wp2_with fail
      go_loopw [7, 8] (fun t7 t8 wr => ∃ k : Nat, k ≤ p.wd ∧ t7 = .int .i64 ((cntK lo hi p ps gap k : Nat) : Int) ∧ t8 = .int .i64 (p.lo + (k : Int)) ∧ Below w1.heap.size w1 wr) (fun _ t8 _ => (p.hi + 1 - intOf t8).toNat)
      case atStart => exact ⟨0, Nat.zero_le _, rfl, by go_num, Below.refl _ _⟩
      case round =>
        obtain ⟨k, hk, rfl, rfl, hbf⟩ := hrel
        obtain ⟨wq, hwq⟩ : ∃ x, x = wr := ⟨_, rfl⟩
        subst hwq
        have hbl : Below w.heap.size w wq := by rw [HNe.out]; exact hb1.trans (hbf.mono hsz)
        obtain ⟨q1, q2, q3⟩ := HPA.out _ hbl
        have qb := HAB.out _ hbl
        have kC := k1.later hbf
        have cC := kC.cell
        have lC := kC.lt
        obtain ⟨v, hv⟩ : ∃ v, v = p.lo + (k : Int) := ⟨_, rfl⟩
        rw [← hv]
        have hv1 : -1000000 ≤ v := by omega
        have hv2 : v ≤ 1000001 := by omega
        by_cases hlt : k < p.wd
        · have hd : decide (v ≤ p.hi) = true := decide_eq_true (by omega)
          obtain ⟨g2, hg2e⟩ : ∃ g2, g2 = gap + p.off k := ⟨_, rfl⟩
          have HST : Hid (cntK lo hi p ps gap (k + 1) = cntK lo hi p ps gap k + cntR lo hi ps g2) := by show _ = _; rw [hg2e]; exact cntK_succ k
          have hbd : cntK lo hi p ps gap k + cntR lo hi ps g2 ≤ 10828567056280801 := by
            rw [← HST.out]
            exact Nat.le_trans (cntK_le (by omega)) HB.out
          have hgb : -(1000000 * (8 - ((0 : Nat) : Int))) ≤ g2 ∧ g2 ≤ 1000000 * (8 - ((0 : Nat) : Int)) := by
            have : p.off k = v ∨ p.off k = -v := by unfold Prt.off; cases p.neg <;> simp <;> omega
            omega
          generalize hE : cntK lo hi p ps gap (k + 1) = E at *
          generalize cntK lo hi p ps gap k = C at *
          cases hng : p.neg with
          | true =>
            have hgp1 : -8000000 ≤ gap := by omega
            have hgp2 : gap ≤ 8000000 := by omega
            have hgq1 : -8000000 ≤ g2 := by omega
            have hgq2 : g2 ≤ 8000000 := by omega
            have hge : gap - v = g2 := by rw [hg2e]; unfold Prt.off; rw [hng]; simp; omega
            rw [hng] at q3
            have HAC : ((some a) = some (a.add 3) ∨ 0 = 0) := .inr rfl
            generalize hDe : cntR lo hi ps g2 = D at *
            have hCD : (C : Int) + (D : Int) = (E : Int) := by have := HST.out; omega
            have hEb : E ≤ 10828567056280801 := by have := HST.out; omega
            have HV := Lib.hid hv
            have hwg : IntKind.i64.wrap g2 = g2 := by rw [IntKind.wrap_i64]; omega
            have hwE : IntKind.i64.wrap (E : Int) = (E : Int) := by rw [IntKind.wrap_i64]; omega
            clear hv hg2e
            go_upto_region 10 with fail
            clear q1 q2 q3 qb cC lC
            refine held_var (S := fun V => Below wq.heap.size wq V) (by kernel_rfl) (Below.refl _ _).drew (fun V0 hV0 hb0 => ?_)
            clear hV0
            refine wpAnyH_take (i := 0) (v := ?_) rfl (by kernel_rfl) (by kernel_rfl) (by kernel_rfl) (fun _ _ _ h => h) (Or.inl ⟨by rfl, ?hy⟩) (by assumption) ?_
            case hy => (intro w hSw; have hSw2 := hSw; have cC := (kC.later hSw).cell; have lC := (kC.later hSw).lt; clear hSw hSw2; go_simp; try with_reducible rfl)
            refine wpAnyH_take (i := 1) (v := ?_) rfl (by kernel_rfl) (by kernel_rfl) (by kernel_rfl) (fun _ _ _ h => h) (Or.inl ⟨by rfl, ?hy⟩) (by assumption) ?_
            case hy => (intro w hSw; have hSw2 := hSw; have cC := (kC.later hSw).cell; have lC := (kC.later hSw).lt; clear hSw hSw2; go_simp; try with_reducible rfl)
            refine wpAnyH_take (i := 2) (v := .slice (some a) 0 0) rfl (by kernel_rfl) (by kernel_rfl) (by kernel_rfl) (fun _ _ _ h => h) (Or.inl ⟨by rfl, ?hy⟩) (by assumption) ?_
            case hy => (intro w hSw; have hSw2 := hSw; have cC := (kC.later hSw).cell; have lC := (kC.later hSw).lt; clear hSw hSw2; go_simp; try with_reducible rfl)
            simp only [Act.put, List.getElem_toArray, List.getElem_cons_succ, List.getElem_cons_zero, List.setIfInBounds_toArray, List.set_cons_succ, List.set_cons_zero]
            refine wpAnyH_take (i := 3) (v := ?_) rfl (by kernel_rfl) (by kernel_rfl) (by kernel_rfl) (fun _ _ _ h => h) (Or.inl ⟨by rfl, ?hy⟩) (by assumption) ?_
            case hy => (intro w hSw; have hSw2 := hSw; have cC := (kC.later hSw).cell; have lC := (kC.later hSw).lt; clear hSw hSw2; go_simp; try with_reducible rfl)
            refine wpAnyH_take (i := 4) (v := ?_) rfl (by kernel_rfl) (by kernel_rfl) (by kernel_rfl) (fun _ _ _ h => h) (Or.inl ⟨by rfl, ?hy⟩) (by assumption) ?_
            case hy => (intro w hSw; have hSw2 := hSw; have cC := (kC.later hSw).cell; have lC := (kC.later hSw).lt; clear hSw hSw2; go_simp; try with_reducible rfl)
            refine wpAnyH_take (i := 5) (v := ?_) rfl (by kernel_rfl) (by kernel_rfl) (by kernel_rfl) (fun _ _ _ h => h) (Or.inl ⟨by rfl, ?hy⟩) (by assumption) ?_
            case hy => (intro w hSw; have hSw2 := hSw; have cC := (kC.later hSw).cell; have lC := (kC.later hSw).lt; clear hSw hSw2; go_simp; try with_reducible rfl)
            refine wpAnyH_take (i := 6) (v := ?_) rfl (by kernel_rfl) (by kernel_rfl) (by kernel_rfl) (fun _ _ _ h => h) (Or.inl ⟨by rfl, ?hy⟩) (by assumption) ?_
            case hy => (intro w hSw; have hSw2 := hSw; have cC := (kC.later hSw).cell; have lC := (kC.later hSw).lt; clear hSw hSw2; go_simp; try with_reducible rfl)
            simp only [Act.put, List.getElem_toArray, List.getElem_cons_succ, List.getElem_cons_zero, List.setIfInBounds_toArray, List.set_cons_succ, List.set_cons_zero]
            refine wpAnyH_ready (rs := [7]) (by kernel_rfl) (by simp) (AllReadyH.cons rfl (fun K hK => ?_) AllReadyH.nil)
            go_simp
            refine (HIH.out V0 (some a) 0 g2 (hbl.trans (hb0.mono hbl.size)) (by first | exact HAC | exact Or.inr trivial) (by omega) hgb.1 hgb.2).mono ?_
            rintro e V1 ⟨rfl, hbX⟩
            replace hb0 := hb0.trans (hbX.mono hb0.size)
            rw [hDe]
            refine hK.out _ _ hb0 (fun _ => ?_)
            clear hK K hbX
            refine wpAnyH_take (i := 8) (v := ?_) rfl (by kernel_rfl) (by kernel_rfl) (by kernel_rfl) (fun _ _ _ h => h) (Or.inl ⟨by rfl, ?hy⟩) (by assumption) ?_
            case hy => (intro w hSw; have hSw2 := hSw; have cC := (kC.later hSw).cell; have lC := (kC.later hSw).lt; clear hSw hSw2; go_simp; try with_reducible rfl)
            simp only [Act.put, List.getElem_toArray, List.getElem_cons_succ, List.getElem_cons_zero, List.setIfInBounds_toArray, List.set_cons_succ, List.set_cons_zero]
            refine wpAnyH_ready (rs := [9]) (by kernel_rfl) (by simp) (AllReadyH.cons rfl (fun K hK => ?_) AllReadyH.nil)
            go_simp
            refine hK.out _ _ hb0 (fun _ => ?_)
            clear hK K
            refine wpAnyH_done (by kernel_rfl) ?_ _
            have hb6 := hbf.trans (hb0.mono hbf.size)
            clear hwg hwE
            go_wp2_with fail
            go_roundw
            case rel =>
              have hz1 := HV.out
              exact ⟨k + 1, by omega, by rw [hE], congrArg (Value.int .i64) (by push_cast; omega), hb6⟩
            case measure =>
              have hz1 := HV.out
              simp [intOf] <;> omega
          | false =>
            have hgp1 : -8000000 ≤ gap := by omega
            have hgp2 : gap ≤ 8000000 := by omega
            have hgq1 : -8000000 ≤ g2 := by omega
            have hgq2 : g2 ≤ 8000000 := by omega
            have hge : gap + v = g2 := by rw [hg2e]; unfold Prt.off; rw [hng]; simp; omega
            rw [hng] at q3
            have HAC : ((some a) = some (a.add 3) ∨ 0 = 0) := .inr rfl
            generalize hDe : cntR lo hi ps g2 = D at *
            have hCD : (C : Int) + (D : Int) = (E : Int) := by have := HST.out; omega
            have hEb : E ≤ 10828567056280801 := by have := HST.out; omega
            have HV := Lib.hid hv
            have hwg : IntKind.i64.wrap g2 = g2 := by rw [IntKind.wrap_i64]; omega
            have hwE : IntKind.i64.wrap (E : Int) = (E : Int) := by rw [IntKind.wrap_i64]; omega
            clear hv hg2e
            go_upto_region 11 with fail
            clear q1 q2 q3 qb cC lC
            refine held_var (S := fun V => Below wq.heap.size wq V) (by kernel_rfl) (Below.refl _ _).drew (fun V0 hV0 hb0 => ?_)
            clear hV0
            refine wpAnyH_take (i := 0) (v := ?_) rfl (by kernel_rfl) (by kernel_rfl) (by kernel_rfl) (fun _ _ _ h => h) (Or.inl ⟨by rfl, ?hy⟩) (by assumption) ?_
            case hy => (intro w hSw; have hSw2 := hSw; have cC := (kC.later hSw).cell; have lC := (kC.later hSw).lt; clear hSw hSw2; go_simp; try with_reducible rfl)
            refine wpAnyH_take (i := 1) (v := ?_) rfl (by kernel_rfl) (by kernel_rfl) (by kernel_rfl) (fun _ _ _ h => h) (Or.inl ⟨by rfl, ?hy⟩) (by assumption) ?_
            case hy => (intro w hSw; have hSw2 := hSw; have cC := (kC.later hSw).cell; have lC := (kC.later hSw).lt; clear hSw hSw2; go_simp; try with_reducible rfl)
            refine wpAnyH_take (i := 2) (v := .slice (some a) 0 0) rfl (by kernel_rfl) (by kernel_rfl) (by kernel_rfl) (fun _ _ _ h => h) (Or.inl ⟨by rfl, ?hy⟩) (by assumption) ?_
            case hy => (intro w hSw; have hSw2 := hSw; have cC := (kC.later hSw).cell; have lC := (kC.later hSw).lt; clear hSw hSw2; go_simp; try with_reducible rfl)
            simp only [Act.put, List.getElem_toArray, List.getElem_cons_succ, List.getElem_cons_zero, List.setIfInBounds_toArray, List.set_cons_succ, List.set_cons_zero]
            refine wpAnyH_take (i := 3) (v := ?_) rfl (by kernel_rfl) (by kernel_rfl) (by kernel_rfl) (fun _ _ _ h => h) (Or.inl ⟨by rfl, ?hy⟩) (by assumption) ?_
            case hy => (intro w hSw; have hSw2 := hSw; have cC := (kC.later hSw).cell; have lC := (kC.later hSw).lt; clear hSw hSw2; go_simp; try with_reducible rfl)
            refine wpAnyH_take (i := 4) (v := ?_) rfl (by kernel_rfl) (by kernel_rfl) (by kernel_rfl) (fun _ _ _ h => h) (Or.inl ⟨by rfl, ?hy⟩) (by assumption) ?_
            case hy => (intro w hSw; have hSw2 := hSw; have cC := (kC.later hSw).cell; have lC := (kC.later hSw).lt; clear hSw hSw2; go_simp; try with_reducible rfl)
            refine wpAnyH_take (i := 5) (v := ?_) rfl (by kernel_rfl) (by kernel_rfl) (by kernel_rfl) (fun _ _ _ h => h) (Or.inl ⟨by rfl, ?hy⟩) (by assumption) ?_
            case hy => (intro w hSw; have hSw2 := hSw; have cC := (kC.later hSw).cell; have lC := (kC.later hSw).lt; clear hSw hSw2; go_simp; try with_reducible rfl)
            refine wpAnyH_take (i := 6) (v := ?_) rfl (by kernel_rfl) (by kernel_rfl) (by kernel_rfl) (fun _ _ _ h => h) (Or.inl ⟨by rfl, ?hy⟩) (by assumption) ?_
            case hy => (intro w hSw; have hSw2 := hSw; have cC := (kC.later hSw).cell; have lC := (kC.later hSw).lt; clear hSw hSw2; go_simp; try with_reducible rfl)
            simp only [Act.put, List.getElem_toArray, List.getElem_cons_succ, List.getElem_cons_zero, List.setIfInBounds_toArray, List.set_cons_succ, List.set_cons_zero]
            refine wpAnyH_ready (rs := [7]) (by kernel_rfl) (by simp) (AllReadyH.cons rfl (fun K hK => ?_) AllReadyH.nil)
            go_simp
            refine (HIH.out V0 (some a) 0 g2 (hbl.trans (hb0.mono hbl.size)) (by first | exact HAC | exact Or.inr trivial) (by omega) hgb.1 hgb.2).mono ?_
            rintro e V1 ⟨rfl, hbX⟩
            replace hb0 := hb0.trans (hbX.mono hb0.size)
            rw [hDe]
            refine hK.out _ _ hb0 (fun _ => ?_)
            clear hK K hbX
            refine wpAnyH_take (i := 8) (v := ?_) rfl (by kernel_rfl) (by kernel_rfl) (by kernel_rfl) (fun _ _ _ h => h) (Or.inl ⟨by rfl, ?hy⟩) (by assumption) ?_
            case hy => (intro w hSw; have hSw2 := hSw; have cC := (kC.later hSw).cell; have lC := (kC.later hSw).lt; clear hSw hSw2; go_simp; try with_reducible rfl)
            simp only [Act.put, List.getElem_toArray, List.getElem_cons_succ, List.getElem_cons_zero, List.setIfInBounds_toArray, List.set_cons_succ, List.set_cons_zero]
            refine wpAnyH_ready (rs := [9]) (by kernel_rfl) (by simp) (AllReadyH.cons rfl (fun K hK => ?_) AllReadyH.nil)
            go_simp
            refine hK.out _ _ hb0 (fun _ => ?_)
            clear hK K
            refine wpAnyH_done (by kernel_rfl) ?_ _
            have hb6 := hbf.trans (hb0.mono hbf.size)
            clear hwg hwE
            go_wp2_with fail
            go_roundw
            case rel =>
              have hz1 := HV.out
              exact ⟨k + 1, by omega, by rw [hE], congrArg (Value.int .i64) (by push_cast; omega), hb6⟩
            case measure =>
              have hz1 := HV.out
              simp [intOf] <;> omega
        · obtain rfl : k = p.wd := by omega
          have hd : decide (v ≤ p.hi) = false := decide_eq_false (by omega)
          have hd' : ¬ v ≤ p.hi := by omega
          clear hv
          have HE : Hid (cntK lo hi p ps gap p.wd = cntR lo hi (p :: ps) gap) := cntK_all
          go_wp2_with fail
          go_ret
          exact ⟨by rw [← HE.out] <;> rfl, hbl⟩
    · have h0' : ¬ c0 = 0 := by omega
      have hz0 : ((m : Int) + 1 == 0) = false := by simp; omega
      clear hP hok hcell hp0 ih ha
      go_enter Tryz.func11, Tryz.ntmps11
      go_upto_region 7 with fail
      clear q1 q2 q3 qb
      have HALL := And.intro k1 hb1
      clear k1 hb1
      revert HALL
      generalize w.alloc (.cells #[.int .i64 lo, .int .i64 hi] 24) = w1
      generalize hNe : w.heap.size = N
      intro HALL
      obtain ⟨k1, hb1⟩ := HALL
      have HNe := Lib.hid hNe
      have hsz := hb1.size
      rw [hNe] at hsz
      clear hNe
      go_wp2_with fail
      go_loopw [7, 8] (fun t7 t8 wr => ∃ k : Nat, k ≤ p.wd ∧ t7 = .int .i64 ((cntK lo hi p ps gap k : Nat) : Int) ∧ t8 = .int .i64 (p.lo + (k : Int)) ∧ Below w1.heap.size w1 wr) (fun _ t8 _ => (p.hi + 1 - intOf t8).toNat)
      case atStart => exact ⟨0, Nat.zero_le _, rfl, by go_num, Below.refl _ _⟩
      case round =>
        obtain ⟨k, hk, rfl, rfl, hbf⟩ := hrel
        obtain ⟨wq, hwq⟩ : ∃ x, x = wr := ⟨_, rfl⟩
        subst hwq
        have hbl : Below w.heap.size w wq := by rw [HNe.out]; exact hb1.trans (hbf.mono hsz)
        obtain ⟨q1, q2, q3⟩ := HPA.out _ hbl
        have qb := HAB.out _ hbl
        have kC := k1.later hbf
        have cC := kC.cell
        have lC := kC.lt
        obtain ⟨v, hv⟩ : ∃ v, v = p.lo + (k : Int) := ⟨_, rfl⟩
        rw [← hv]
        have hv1 : -1000000 ≤ v := by omega
        have hv2 : v ≤ 1000001 := by omega
        by_cases hlt : k < p.wd
        · have hd : decide (v ≤ p.hi) = true := decide_eq_true (by omega)
          obtain ⟨g2, hg2e⟩ : ∃ g2, g2 = gap + p.off k := ⟨_, rfl⟩
          have HST : Hid (cntK lo hi p ps gap (k + 1) = cntK lo hi p ps gap k + cntR lo hi ps g2) := by show _ = _; rw [hg2e]; exact cntK_succ k
          have hbd : cntK lo hi p ps gap k + cntR lo hi ps g2 ≤ 10828567056280801 := by
            rw [← HST.out]
            exact Nat.le_trans (cntK_le (by omega)) HB.out
          have hgb : -(1000000 * (8 - m : Int)) ≤ g2 ∧ g2 ≤ 1000000 * (8 - m : Int) := by
            have : p.off k = v ∨ p.off k = -v := by unfold Prt.off; cases p.neg <;> simp <;> omega
            omega
          generalize hE : cntK lo hi p ps gap (k + 1) = E at *
          generalize cntK lo hi p ps gap k = C at *
          cases hng : p.neg with
          | true =>
            have hgp1 : -8000000 ≤ gap := by omega
            have hgp2 : gap ≤ 8000000 := by omega
            have hgq1 : -8000000 ≤ g2 := by omega
            have hgq2 : g2 ≤ 8000000 := by omega
            have hge : gap - v = g2 := by rw [hg2e]; unfold Prt.off; rw [hng]; simp; omega
            rw [hng] at q3
            have HAC : ((some ⟨a.block, a.off + 3, none⟩) = some (a.add 3) ∨ m = 0) := .inl rfl
            generalize hDe : cntR lo hi ps g2 = D at *
            have hCD : (C : Int) + (D : Int) = (E : Int) := by have := HST.out; omega
            have hEb : E ≤ 10828567056280801 := by have := HST.out; omega
            have HV := Lib.hid hv
            have hwg : IntKind.i64.wrap g2 = g2 := by rw [IntKind.wrap_i64]; omega
            have hwE : IntKind.i64.wrap (E : Int) = (E : Int) := by rw [IntKind.wrap_i64]; omega
            clear hv hg2e
            go_upto_region 10 with fail
            clear q1 q2 q3 qb cC lC
            refine held_var (S := fun V => Below wq.heap.size wq V) (by kernel_rfl) (Below.refl _ _).drew (fun V0 hV0 hb0 => ?_)
            clear hV0
            refine wpAnyH_take (i := 0) (v := ?_) rfl (by kernel_rfl) (by kernel_rfl) (by kernel_rfl) (fun _ _ _ h => h) (Or.inl ⟨by rfl, ?hy⟩) (by assumption) ?_
            case hy => (intro w hSw; have hSw2 := hSw; have cC := (kC.later hSw).cell; have lC := (kC.later hSw).lt; clear hSw hSw2; go_simp; try with_reducible rfl)
            refine wpAnyH_take (i := 1) (v := ?_) rfl (by kernel_rfl) (by kernel_rfl) (by kernel_rfl) (fun _ _ _ h => h) (Or.inl ⟨by rfl, ?hy⟩) (by assumption) ?_
            case hy => (intro w hSw; have hSw2 := hSw; have cC := (kC.later hSw).cell; have lC := (kC.later hSw).lt; clear hSw hSw2; go_simp; try with_reducible rfl)
            refine wpAnyH_take (i := 2) (v := .slice (some ⟨a.block, a.off + 3, none⟩) m c0) rfl (by kernel_rfl) (by kernel_rfl) (by kernel_rfl) (fun _ _ _ h => h) (Or.inl ⟨by rfl, ?hy⟩) (by assumption) ?_
            case hy => (intro w hSw; have hSw2 := hSw; have cC := (kC.later hSw).cell; have lC := (kC.later hSw).lt; clear hSw hSw2; go_simp; (intro hq; exfalso; omega))
            simp only [Act.put, List.getElem_toArray, List.getElem_cons_succ, List.getElem_cons_zero, List.setIfInBounds_toArray, List.set_cons_succ, List.set_cons_zero]
            refine wpAnyH_take (i := 3) (v := ?_) rfl (by kernel_rfl) (by kernel_rfl) (by kernel_rfl) (fun _ _ _ h => h) (Or.inl ⟨by rfl, ?hy⟩) (by assumption) ?_
            case hy => (intro w hSw; have hSw2 := hSw; have cC := (kC.later hSw).cell; have lC := (kC.later hSw).lt; clear hSw hSw2; go_simp; try with_reducible rfl)
            refine wpAnyH_take (i := 4) (v := ?_) rfl (by kernel_rfl) (by kernel_rfl) (by kernel_rfl) (fun _ _ _ h => h) (Or.inl ⟨by rfl, ?hy⟩) (by assumption) ?_
            case hy => (intro w hSw; have hSw2 := hSw; have cC := (kC.later hSw).cell; have lC := (kC.later hSw).lt; clear hSw hSw2; go_simp; try with_reducible rfl)
            refine wpAnyH_take (i := 5) (v := ?_) rfl (by kernel_rfl) (by kernel_rfl) (by kernel_rfl) (fun _ _ _ h => h) (Or.inl ⟨by rfl, ?hy⟩) (by assumption) ?_
            case hy => (intro w hSw; have hSw2 := hSw; have cC := (kC.later hSw).cell; have lC := (kC.later hSw).lt; clear hSw hSw2; go_simp; try with_reducible rfl)
            refine wpAnyH_take (i := 6) (v := ?_) rfl (by kernel_rfl) (by kernel_rfl) (by kernel_rfl) (fun _ _ _ h => h) (Or.inl ⟨by rfl, ?hy⟩) (by assumption) ?_
            case hy => (intro w hSw; have hSw2 := hSw; have cC := (kC.later hSw).cell; have lC := (kC.later hSw).lt; clear hSw hSw2; go_simp; try with_reducible rfl)
            simp only [Act.put, List.getElem_toArray, List.getElem_cons_succ, List.getElem_cons_zero, List.setIfInBounds_toArray, List.set_cons_succ, List.set_cons_zero]
            refine wpAnyH_ready (rs := [7]) (by kernel_rfl) (by simp) (AllReadyH.cons rfl (fun K hK => ?_) AllReadyH.nil)
            go_simp
            refine (HIH.out V0 (some ⟨a.block, a.off + 3, none⟩) c0 g2 (hbl.trans (hb0.mono hbl.size)) (by first | exact HAC | exact Or.inr trivial) (by omega) hgb.1 hgb.2).mono ?_
            rintro e V1 ⟨rfl, hbX⟩
            replace hb0 := hb0.trans (hbX.mono hb0.size)
            rw [hDe]
            refine hK.out _ _ hb0 (fun _ => ?_)
            clear hK K hbX
            refine wpAnyH_take (i := 8) (v := ?_) rfl (by kernel_rfl) (by kernel_rfl) (by kernel_rfl) (fun _ _ _ h => h) (Or.inl ⟨by rfl, ?hy⟩) (by assumption) ?_
            case hy => (intro w hSw; have hSw2 := hSw; have cC := (kC.later hSw).cell; have lC := (kC.later hSw).lt; clear hSw hSw2; go_simp; try with_reducible rfl)
            simp only [Act.put, List.getElem_toArray, List.getElem_cons_succ, List.getElem_cons_zero, List.setIfInBounds_toArray, List.set_cons_succ, List.set_cons_zero]
            refine wpAnyH_ready (rs := [9]) (by kernel_rfl) (by simp) (AllReadyH.cons rfl (fun K hK => ?_) AllReadyH.nil)
            go_simp
            refine hK.out _ _ hb0 (fun _ => ?_)
            clear hK K
            refine wpAnyH_done (by kernel_rfl) ?_ _
            have hb6 := hbf.trans (hb0.mono hbf.size)
            clear hwg hwE
            go_wp2_with fail
            go_roundw
            case rel =>
              have hz1 := HV.out
              exact ⟨k + 1, by omega, by rw [hE], congrArg (Value.int .i64) (by push_cast; omega), hb6⟩
            case measure =>
              have hz1 := HV.out
              simp [intOf] <;> omega
          | false =>
            have hgp1 : -8000000 ≤ gap := by omega
            have hgp2 : gap ≤ 8000000 := by omega
            have hgq1 : -8000000 ≤ g2 := by omega
            have hgq2 : g2 ≤ 8000000 := by omega
            have hge : gap + v = g2 := by rw [hg2e]; unfold Prt.off; rw [hng]; simp; omega
            rw [hng] at q3
            have HAC : ((some ⟨a.block, a.off + 3, none⟩) = some (a.add 3) ∨ m = 0) := .inl rfl
            generalize hDe : cntR lo hi ps g2 = D at *
            have hCD : (C : Int) + (D : Int) = (E : Int) := by have := HST.out; omega
            have hEb : E ≤ 10828567056280801 := by have := HST.out; omega
            have HV := Lib.hid hv
            have hwg : IntKind.i64.wrap g2 = g2 := by rw [IntKind.wrap_i64]; omega
            have hwE : IntKind.i64.wrap (E : Int) = (E : Int) := by rw [IntKind.wrap_i64]; omega
            clear hv hg2e
            go_upto_region 11 with fail
            clear q1 q2 q3 qb cC lC
            refine held_var (S := fun V => Below wq.heap.size wq V) (by kernel_rfl) (Below.refl _ _).drew (fun V0 hV0 hb0 => ?_)
            clear hV0
            refine wpAnyH_take (i := 0) (v := ?_) rfl (by kernel_rfl) (by kernel_rfl) (by kernel_rfl) (fun _ _ _ h => h) (Or.inl ⟨by rfl, ?hy⟩) (by assumption) ?_
            case hy => (intro w hSw; have hSw2 := hSw; have cC := (kC.later hSw).cell; have lC := (kC.later hSw).lt; clear hSw hSw2; go_simp; try with_reducible rfl)
            refine wpAnyH_take (i := 1) (v := ?_) rfl (by kernel_rfl) (by kernel_rfl) (by kernel_rfl) (fun _ _ _ h => h) (Or.inl ⟨by rfl, ?hy⟩) (by assumption) ?_
            case hy => (intro w hSw; have hSw2 := hSw; have cC := (kC.later hSw).cell; have lC := (kC.later hSw).lt; clear hSw hSw2; go_simp; try with_reducible rfl)
            refine wpAnyH_take (i := 2) (v := .slice (some ⟨a.block, a.off + 3, none⟩) m c0) rfl (by kernel_rfl) (by kernel_rfl) (by kernel_rfl) (fun _ _ _ h => h) (Or.inl ⟨by rfl, ?hy⟩) (by assumption) ?_
            case hy => (intro w hSw; have hSw2 := hSw; have cC := (kC.later hSw).cell; have lC := (kC.later hSw).lt; clear hSw hSw2; go_simp; (intro hq; exfalso; omega))
            simp only [Act.put, List.getElem_toArray, List.getElem_cons_succ, List.getElem_cons_zero, List.setIfInBounds_toArray, List.set_cons_succ, List.set_cons_zero]
            refine wpAnyH_take (i := 3) (v := ?_) rfl (by kernel_rfl) (by kernel_rfl) (by kernel_rfl) (fun _ _ _ h => h) (Or.inl ⟨by rfl, ?hy⟩) (by assumption) ?_
            case hy => (intro w hSw; have hSw2 := hSw; have cC := (kC.later hSw).cell; have lC := (kC.later hSw).lt; clear hSw hSw2; go_simp; try with_reducible rfl)
            refine wpAnyH_take (i := 4) (v := ?_) rfl (by kernel_rfl) (by kernel_rfl) (by kernel_rfl) (fun _ _ _ h => h) (Or.inl ⟨by rfl, ?hy⟩) (by assumption) ?_
            case hy => (intro w hSw; have hSw2 := hSw; have cC := (kC.later hSw).cell; have lC := (kC.later hSw).lt; clear hSw hSw2; go_simp; try with_reducible rfl)
            refine wpAnyH_take (i := 5) (v := ?_) rfl (by kernel_rfl) (by kernel_rfl) (by kernel_rfl) (fun _ _ _ h => h) (Or.inl ⟨by rfl, ?hy⟩) (by assumption) ?_
            case hy => (intro w hSw; have hSw2 := hSw; have cC := (kC.later hSw).cell; have lC := (kC.later hSw).lt; clear hSw hSw2; go_simp; try with_reducible rfl)
            refine wpAnyH_take (i := 6) (v := ?_) rfl (by kernel_rfl) (by kernel_rfl) (by kernel_rfl) (fun _ _ _ h => h) (Or.inl ⟨by rfl, ?hy⟩) (by assumption) ?_
            case hy => (intro w hSw; have hSw2 := hSw; have cC := (kC.later hSw).cell; have lC := (kC.later hSw).lt; clear hSw hSw2; go_simp; try with_reducible rfl)
            simp only [Act.put, List.getElem_toArray, List.getElem_cons_succ, List.getElem_cons_zero, List.setIfInBounds_toArray, List.set_cons_succ, List.set_cons_zero]
            refine wpAnyH_ready (rs := [7]) (by kernel_rfl) (by simp) (AllReadyH.cons rfl (fun K hK => ?_) AllReadyH.nil)
            go_simp
            refine (HIH.out V0 (some ⟨a.block, a.off + 3, none⟩) c0 g2 (hbl.trans (hb0.mono hbl.size)) (by first | exact HAC | exact Or.inr trivial) (by omega) hgb.1 hgb.2).mono ?_
            rintro e V1 ⟨rfl, hbX⟩
            replace hb0 := hb0.trans (hbX.mono hb0.size)
            rw [hDe]
            refine hK.out _ _ hb0 (fun _ => ?_)
            clear hK K hbX
            refine wpAnyH_take (i := 8) (v := ?_) rfl (by kernel_rfl) (by kernel_rfl) (by kernel_rfl) (fun _ _ _ h => h) (Or.inl ⟨by rfl, ?hy⟩) (by assumption) ?_
            case hy => (intro w hSw; have hSw2 := hSw; have cC := (kC.later hSw).cell; have lC := (kC.later hSw).lt; clear hSw hSw2; go_simp; try with_reducible rfl)
            simp only [Act.put, List.getElem_toArray, List.getElem_cons_succ, List.getElem_cons_zero, List.setIfInBounds_toArray, List.set_cons_succ, List.set_cons_zero]
            refine wpAnyH_ready (rs := [9]) (by kernel_rfl) (by simp) (AllReadyH.cons rfl (fun K hK => ?_) AllReadyH.nil)
            go_simp
            refine hK.out _ _ hb0 (fun _ => ?_)
            clear hK K
            refine wpAnyH_done (by kernel_rfl) ?_ _
            have hb6 := hbf.trans (hb0.mono hbf.size)
            clear hwg hwE
            go_wp2_with fail
            go_roundw
            case rel =>
              have hz1 := HV.out
              exact ⟨k + 1, by omega, by rw [hE], congrArg (Value.int .i64) (by push_cast; omega), hb6⟩
            case measure =>
              have hz1 := HV.out
              simp [intOf] <;> omega
        · obtain rfl : k = p.wd := by omega
          have hd : decide (v ≤ p.hi) = false := decide_eq_false (by omega)
          have hd' : ¬ v ≤ p.hi := by omega
          clear hv
          have HE : Hid (cntK lo hi p ps gap p.wd = cntR lo hi (p :: ps) gap) := cntK_all
          go_wp2_with fail
          go_ret
          exact ⟨by rw [← HE.out] <;> rfl, hbl⟩
end Go.Proofs.YtpklcjbdmikbdaaGreat
