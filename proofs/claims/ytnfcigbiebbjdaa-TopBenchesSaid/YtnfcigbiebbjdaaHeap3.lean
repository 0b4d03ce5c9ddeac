/-
  Jobs that wait in a heap: container/heap.
  Conditions: the heap's list lies in a block of the call's own; the comparison is a strict weak order.
-/
import Derived.Test.YtnfcigbiebbjdaaHeap2
namespace Go.Proofs.Ytnfcigbiebbjdaa
open Go.RowKit

theorem eqn_ne {a b : Nat} (h : a ≠ b) : ((a : Int) == (b : Int)) = false := by
  have : ¬ (a : Int) = (b : Int) := by omega
  simpa using this
section
variable {S : Nat → Prop} {N0 base : Nat}
set_option maxRecDepth 100000 in
set_option maxHeartbeats 2000000 in
theorem up_h {w W0 : World} {b g : Nat} {cb : Array Value} {v : Value} {L : List Int} {lt : Int → Int → Bool} {D : Int → Prop} (T : Lt lt) (hS : ∀ k, S k → k < N0) (h : HeapS S N0 base w b (.func (.func g) #[] cb) v L) (C : LessC S W0 g cb lt D) (hw : Fix S W0 w) (hD : ∀ x ∈ L, D x)
    (j n : Nat) (hln : L.length = n) (hj : j < n) (hn : n ≤ 1000) (hU : UpP lt L j) :
    Calls Try.prog 82 #[.iface 76 (.pointer (some ⟨b, 0, none⟩)), .int .i64 j] w fun e w' => e = .returned (.tuple #[]) ∧ ∃ L', L'.Perm L ∧ HeapP lt L' L'.length ∧ HeapS S N0 base w' b (.func (.func g) #[] cb) v L' ∧ Fix S W0 w' := by
  have hm1 := m_less b
  have hm2 := m_swap b
  have HT := Lib.hid T
  have HS := Lib.hid hS
  have HC := Lib.hid C
  have HD := Lib.hid hD
  have H0 : Hid (L.Perm L) := List.Perm.refl _
  have HU := Lib.hid hU
  have HL := Lib.hid hln
  clear T hS C hD hU hln
  go_enter Try.func82, Try.ntmps82
  go_wp2_with fail
  go_loopw [1] (fun u wr => ∃ (j : Nat) (L' : List Int), u = .int .i64 j ∧ j < n ∧ Hid (L'.length = n) ∧ Hid (L'.Perm L) ∧ UpP lt L' j ∧ HeapS S N0 base wr b (.func (.func g) #[] cb) v L' ∧ Fix S W0 wr) (fun u _ => (intOf u).toNat)
  case atStart => exact ⟨j, L, rfl, hj, HL, H0, HU.out, h, hw⟩
  case round =>
    clear h hw HU H0 hj
    obtain ⟨j, L1, rfl, hj, hl1, hP, hU, h, hw⟩ := hrel
    rcases Nat.eq_zero_or_pos j with hj0 | hj0
    · subst hj0
      have e1 : ((-1 : Int)).tdiv 2 = 0 := by decide
      have e2 : ((0 : Int) == 0) = true := by decide
      have HF := Lib.hid (UpP.done hU (.inl rfl))
      go_wp2_with fail
      go_end0
      exact ⟨rfl, L1, hP.out, HF.out, h, hw⟩
    · obtain ⟨p, hp⟩ : ∃ p, p = (j - 1) / 2 := ⟨_, rfl⟩
      have hpj : p < j := by omega
      have e1 : ((j : Int) - 1).tdiv 2 = (p : Int) := by
        rw [Int.tdiv_eq_ediv_of_nonneg (by omega)]
        omega
      have e2 := eqn_ne (a := p) (b := j) (by omega)
      have HP := Lib.hid hp
      have HH := Lib.hid h
      have HW := Lib.hid hw
      have LM := Lib.hid (less_h HS.out h HC.out hw (fun x hx => HD.out x (hP.out.mem_iff.1 hx)) j p (by rw [hl1.out]; exact hj) (by rw [hl1.out]; omega) (by rw [hl1.out]; exact hn))
      clear hp h hw
      cases hlt : lt (at_ L1 j) (at_ L1 p) with
      | false =>
        rw [hlt] at LM
        have HF := Lib.hid (UpP.done hU (.inr (by rw [← HP.out]; exact hlt)))
        clear hU hlt
        go_wp2_with fail
        refine LM.out.mono ?_
        rintro e w2 ⟨rfl, hb2⟩
        have h2 := HH.out.later hb2
        have hw2 := HW.out.trans (Fix.of_below hb2 (fun k hk => Nat.lt_of_lt_of_le (HS.out k hk) HH.out.2.2.2.2))
        clear LM hb2
        go_wp2_with fail
        go_end0
        exact ⟨rfl, L1, hP.out, HF.out, h2, hw2⟩
      | true =>
        rw [hlt] at LM
        have hst := HT.out
        have HN := Lib.hid (UpP.step hst hU hj0 (by rw [hl1.out]; exact hj) (by rw [← HP.out]; exact hlt))
        rw [← HP.out] at HN
        clear hU hlt hst
        go_wp2_with fail
        refine LM.out.mono ?_
        rintro e w2 ⟨rfl, hb2⟩
        have h2 := HH.out.later hb2
        have hw2 := HW.out.trans (Fix.of_below hb2 (fun k hk => Nat.lt_of_lt_of_le (HS.out k hk) HH.out.2.2.2.2))
        have SM := Lib.hid (swap_h h2 hw2 p j (by rw [hl1.out]; omega) (by rw [hl1.out]; exact hj) (by rw [hl1.out]; exact hn))
        clear LM hb2 h2 hw2
        go_wp2_with fail
        refine SM.out.mono ?_
        rintro e w3 ⟨rfl, h3, hw3⟩
        have HP3 : Hid ((swp L1 p j).Perm L) := (swp_perm (by rw [hl1.out]; omega) (by rw [hl1.out]; exact hj)).trans hP.out
        have HL3 : Hid ((swp L1 p j).length = n) := (swp_len _ _ _).trans hl1.out
        clear SM
        go_wp2_with fail
        go_roundw
        case rel => exact ⟨p, swp L1 p j, rfl, by omega, HL3, HP3, HN.out, h3, hw3⟩
        case measure => simp [intOf]; omega
end
end Go.Proofs.Ytnfcigbiebbjdaa
