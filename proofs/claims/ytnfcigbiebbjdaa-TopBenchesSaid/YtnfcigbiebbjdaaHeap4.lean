/-
  Jobs that wait in a heap: container/heap, downwards; the first one off; one more.
  Conditions: the heap's list lies in a block of the call's own; the comparison is a strict weak order.
-/
import Derived.Test.YtnfcigbiebbjdaaHeap3
namespace Go.Proofs.Ytnfcigbiebbjdaa
open Go.RowKit

/-- From n on the lists are the same. -/
def Tail (n : Nat) (A B : List Int) : Prop := ∀ k, n ≤ k → at_ A k = at_ B k
section
variable {S : Nat → Prop} {N0 base : Nat}
/-- What down does. -/
def DownR (S : Nat → Prop) (N0 base : Nat) (W0 : World) (b : Nat) (fv v : Value) (lt : Int → Int → Bool) (L : List Int) (n : Nat) (e : Ending) (w' : World) : Prop :=
  ∃ (r : Bool) (L' : List Int), e = .returned (.bool r) ∧ L'.Perm L ∧ HeapP lt L' n ∧ Tail n L' L ∧ HeapS S N0 base w' b fv v L' ∧ Fix S W0 w'
set_option maxRecDepth 100000 in
set_option maxHeartbeats 4000000 in
theorem down_h {w W0 : World} {b g : Nat} {cb : Array Value} {v : Value} {L : List Int} {lt : Int → Int → Bool} {D : Int → Prop} (T : Lt lt) (hS : ∀ k, S k → k < N0) (h : HeapS S N0 base w b (.func (.func g) #[] cb) v L) (C : LessC S W0 g cb lt D) (hw : Fix S W0 w) (hD : ∀ x ∈ L, D x)
    (n m : Nat) (hln : L.length = m) (hj : n ≤ m) (hn : m ≤ 1000) (hU : DownP lt L n 0) :
    Calls Try.prog 83 #[.iface 76 (.pointer (some ⟨b, 0, none⟩)), .int .i64 0, .int .i64 n] w (DownR S N0 base W0 b (.func (.func g) #[] cb) v lt L n) := by
  have hm1 := m_less b
  have hm2 := m_swap b
  have HT := Lib.hid T
  have HS := Lib.hid hS
  have HC := Lib.hid C
  have HD := Lib.hid hD
  have H0 : Hid (L.Perm L) := List.Perm.refl _
  have H1 : Hid (Tail n L L) := fun _ _ => rfl
  have HU := Lib.hid hU
  have HL := Lib.hid hln
  clear T hS C hD hU hln
  go_enter Try.func83, Try.ntmps83
  go_wp2_with fail
  go_loopw [7] (fun u wr => ∃ (i : Nat) (L' : List Int), u = .int .i64 i ∧ i ≤ m ∧ Hid (L'.length = m) ∧ Hid (L'.Perm L) ∧ Hid (Tail n L' L) ∧ DownP lt L' n i ∧ HeapS S N0 base wr b (.func (.func g) #[] cb) v L' ∧ Fix S W0 wr) (fun u _ => m - (intOf u).toNat)
  case atStart => exact ⟨0, L, rfl, Nat.zero_le _, HL, H0, H1, HU.out, h, hw⟩
  case round =>
    clear h hw HU H0 H1
    obtain ⟨i, L1, rfl, hi, hl1, hP, hQ, hU, h, hw⟩ := hrel
    have hgt : ∃ r, decide ((i : Int) > 0) = r := ⟨_, rfl⟩
    obtain ⟨r, hgt⟩ := hgt
    by_cases hlt : 2 * i + 1 < n
    · have a1 : (2 : Int) * (i : Int) + 1 < (n : Int) := by omega
      have a2 : decide ((2 : Int) * (i : Int) + 1 ≥ (n : Int)) = false := by simp; omega
      have a3 : decide ((2 : Int) * (i : Int) + 1 < 0) = false := by simp; omega
      obtain ⟨j1, hj1⟩ : ∃ j1, j1 = 2 * i + 1 := ⟨_, rfl⟩
      have ej1 : (2 : Int) * (i : Int) + 1 = (j1 : Int) := by omega
      have HJ1 := Lib.hid hj1
      rw [ej1] at a1 a2 a3
      have hj1n : j1 < n := by omega
      have HH := Lib.hid h
      have HW := Lib.hid hw
      have HUp := Lib.hid hU
      clear hj1 h hw hU
      by_cases h2 : j1 + 1 < n
      · have b1 : decide ((j1 : Int) + 1 < (n : Int)) = true := by simp; omega
        have b2 : (j1 : Int) + 1 < (n : Int) := by omega
        have LM := Lib.hid (less_h HS.out HH.out HC.out HW.out (fun x hx => HD.out x (hP.out.mem_iff.1 hx)) (j1 + 1) j1 (by rw [hl1.out]; omega) (by rw [hl1.out]; omega) (by rw [hl1.out]; exact hn))
        have ej2 : ((j1 + 1 : Nat) : Int) = (j1 : Int) + 1 := by omega
        rw [ej2] at LM
        cases hls : lt (at_ L1 (j1 + 1)) (at_ L1 j1) with
        | true =>
          rw [hls] at LM
          have HMin : Hid (∀ c, 0 < c → c < n → (c - 1) / 2 = i → lt (at_ L1 c) (at_ L1 (j1 + 1)) = false) := fun c c0 c1 cp => by
            have hh := HJ1.out
            rcases (show c = j1 ∨ c = j1 + 1 by omega) with rfl | rfl
            · exact HT.out.asymm _ _ hls
            · exact HT.out.irrefl _
          obtain ⟨j, hjj⟩ : ∃ j, j = j1 + 1 := ⟨_, rfl⟩
          have ej0 : (j1 : Int) + 1 = (j : Int) := by omega
          have EJ := Lib.hid ej0
          clear ej0
          rw [← hjj] at HMin
          have hjn : j < n := by omega
          have hij : i < j := by have := HJ1.out; omega
          have hpar : (j - 1) / 2 = i := by have := HJ1.out; omega
          have HPar := Lib.hid hpar
          clear hls hjj hpar
          go_wp2_with fail
          refine LM.out.mono ?_
          rintro e w1 ⟨rfl, hb1⟩
          have h1 := HH.out.later hb1
          have hw1 := HW.out.trans (Fix.of_below hb1 (fun k hk => Nat.lt_of_lt_of_le (HS.out k hk) HH.out.2.2.2.2))
          clear LM hb1 HH HW
          rw [EJ.out]
          have LN := Lib.hid (less_h HS.out h1 HC.out hw1 (fun x hx => HD.out x (hP.out.mem_iff.1 hx)) j i (by rw [hl1.out]; omega) (by rw [hl1.out]; omega) (by rw [hl1.out]; exact hn))
          have HH := Lib.hid h1
          have HW := Lib.hid hw1
          clear h1 hw1
          cases hlt2 : lt (at_ L1 j) (at_ L1 i) with
          | false =>
            rw [hlt2] at LN
            have HF := Lib.hid (DownP.done HUp.out (fun c c0 c1 cp => HT.out.neg _ _ _ (HMin.out c c0 c1 cp) hlt2))
            clear hlt2
            go_wp2_with fail
            refine LN.out.mono ?_
            rintro e w2 ⟨rfl, hb2⟩
            have h2' := HH.out.later hb2
            have hw2 := HW.out.trans (Fix.of_below hb2 (fun k hk => Nat.lt_of_lt_of_le (HS.out k hk) HH.out.2.2.2.2))
            clear LN hb2
            go_wp2_with fail
            go_ret
            exact ⟨_, L1, rfl, hP.out, HF.out, hQ.out, h2', hw2⟩
          | true =>
            rw [hlt2] at LN
            have hst := HT.out
            have HN := Lib.hid (DownP.step hst HUp.out (by rw [hl1.out]; exact hj) (by omega) (show j < n by omega) HPar.out HMin.out hlt2)
            clear hlt2 hst
            go_wp2_with fail
            refine LN.out.mono ?_
            rintro e w2 ⟨rfl, hb2⟩
            have h2' := HH.out.later hb2
            have hw2 := HW.out.trans (Fix.of_below hb2 (fun k hk => Nat.lt_of_lt_of_le (HS.out k hk) HH.out.2.2.2.2))
            have SM := Lib.hid (swap_h h2' hw2 i j (by rw [hl1.out]; omega) (by rw [hl1.out]; omega) (by rw [hl1.out]; exact hn))
            clear LN hb2 h2' hw2
            go_wp2_with fail
            refine SM.out.mono ?_
            rintro e w3 ⟨rfl, h3, hw3⟩
            have HP3 : Hid ((swp L1 i j).Perm L) := (swp_perm (by rw [hl1.out]; omega) (by rw [hl1.out]; omega)).trans hP.out
            have HL3 : Hid ((swp L1 i j).length = m) := (swp_len _ _ _).trans hl1.out
            have HQ3 : Hid (Tail n (swp L1 i j) L) := fun k hk => by
              rw [at_swp (by rw [hl1.out]; omega) (by rw [hl1.out]; omega), if_neg (by omega), if_neg (by omega)]
              exact hQ.out k hk
            clear SM
            go_wp2_with fail
            go_roundw
            case rel => exact ⟨j, swp L1 i j, rfl, by omega, HL3, HP3, HQ3, HN.out, h3, hw3⟩
            case measure => simp [intOf]; omega
        | false =>
          rw [hls] at LM
          have HMin : Hid (∀ c, 0 < c → c < n → (c - 1) / 2 = i → lt (at_ L1 c) (at_ L1 j1) = false) := fun c c0 c1 cp => by
            have hh := HJ1.out
            rcases (show c = j1 ∨ c = j1 + 1 by omega) with rfl | rfl
            · exact HT.out.irrefl _
            · exact hls
          have hij : i < j1 := by have := HJ1.out; omega
          have hpar : (j1 - 1) / 2 = i := by have := HJ1.out; omega
          have HPar := Lib.hid hpar
          clear hls hpar
          go_wp2_with fail
          refine LM.out.mono ?_
          rintro e w1 ⟨rfl, hb1⟩
          have h1 := HH.out.later hb1
          have hw1 := HW.out.trans (Fix.of_below hb1 (fun k hk => Nat.lt_of_lt_of_le (HS.out k hk) HH.out.2.2.2.2))
          clear LM hb1 HH HW
          have LN := Lib.hid (less_h HS.out h1 HC.out hw1 (fun x hx => HD.out x (hP.out.mem_iff.1 hx)) j1 i (by rw [hl1.out]; omega) (by rw [hl1.out]; omega) (by rw [hl1.out]; exact hn))
          have HH := Lib.hid h1
          have HW := Lib.hid hw1
          clear h1 hw1
          cases hlt2 : lt (at_ L1 j1) (at_ L1 i) with
          | false =>
            rw [hlt2] at LN
            have HF := Lib.hid (DownP.done HUp.out (fun c c0 c1 cp => HT.out.neg _ _ _ (HMin.out c c0 c1 cp) hlt2))
            clear hlt2
            go_wp2_with fail
            refine LN.out.mono ?_
            rintro e w2 ⟨rfl, hb2⟩
            have h2' := HH.out.later hb2
            have hw2 := HW.out.trans (Fix.of_below hb2 (fun k hk => Nat.lt_of_lt_of_le (HS.out k hk) HH.out.2.2.2.2))
            clear LN hb2
            go_wp2_with fail
            go_ret
            exact ⟨_, L1, rfl, hP.out, HF.out, hQ.out, h2', hw2⟩
          | true =>
            rw [hlt2] at LN
            have hst := HT.out
            have HN := Lib.hid (DownP.step hst HUp.out (by rw [hl1.out]; exact hj) (by omega) (show j1 < n by omega) HPar.out HMin.out hlt2)
            clear hlt2 hst
            go_wp2_with fail
            refine LN.out.mono ?_
            rintro e w2 ⟨rfl, hb2⟩
            have h2' := HH.out.later hb2
            have hw2 := HW.out.trans (Fix.of_below hb2 (fun k hk => Nat.lt_of_lt_of_le (HS.out k hk) HH.out.2.2.2.2))
            have SM := Lib.hid (swap_h h2' hw2 i j1 (by rw [hl1.out]; omega) (by rw [hl1.out]; omega) (by rw [hl1.out]; exact hn))
            clear LN hb2 h2' hw2
            go_wp2_with fail
            refine SM.out.mono ?_
            rintro e w3 ⟨rfl, h3, hw3⟩
            have HP3 : Hid ((swp L1 i j1).Perm L) := (swp_perm (by rw [hl1.out]; omega) (by rw [hl1.out]; omega)).trans hP.out
            have HL3 : Hid ((swp L1 i j1).length = m) := (swp_len _ _ _).trans hl1.out
            have HQ3 : Hid (Tail n (swp L1 i j1) L) := fun k hk => by
              rw [at_swp (by rw [hl1.out]; omega) (by rw [hl1.out]; omega), if_neg (by omega), if_neg (by omega)]
              exact hQ.out k hk
            clear SM
            go_wp2_with fail
            go_roundw
            case rel => exact ⟨j1, swp L1 i j1, rfl, by omega, HL3, HP3, HQ3, HN.out, h3, hw3⟩
            case measure => simp [intOf]; omega
      · have b1 : decide ((j1 : Int) + 1 < (n : Int)) = false := by simp; omega
        have b2 : ¬ (j1 : Int) + 1 < (n : Int) := by omega
        have HMin : Hid (∀ c, 0 < c → c < n → (c - 1) / 2 = i → lt (at_ L1 c) (at_ L1 j1) = false) := fun c c0 c1 cp => by
          have hh := HJ1.out
          obtain rfl : c = j1 := by omega
          exact HT.out.irrefl _
        have hij : i < j1 := by have := HJ1.out; omega
        have hpar : (j1 - 1) / 2 = i := by have := HJ1.out; omega
        have HPar := Lib.hid hpar
        have h1 := HH.out
        have hw1 := HW.out
        clear hpar HH HW
        have LN := Lib.hid (less_h HS.out h1 HC.out hw1 (fun x hx => HD.out x (hP.out.mem_iff.1 hx)) j1 i (by rw [hl1.out]; omega) (by rw [hl1.out]; omega) (by rw [hl1.out]; exact hn))
        have HH := Lib.hid h1
        have HW := Lib.hid hw1
        clear h1 hw1
        cases hlt2 : lt (at_ L1 j1) (at_ L1 i) with
        | false =>
          rw [hlt2] at LN
          have HF := Lib.hid (DownP.done HUp.out (fun c c0 c1 cp => HT.out.neg _ _ _ (HMin.out c c0 c1 cp) hlt2))
          clear hlt2
          go_wp2_with fail
          refine LN.out.mono ?_
          rintro e w2 ⟨rfl, hb2⟩
          have h2' := HH.out.later hb2
          have hw2 := HW.out.trans (Fix.of_below hb2 (fun k hk => Nat.lt_of_lt_of_le (HS.out k hk) HH.out.2.2.2.2))
          clear LN hb2
          go_wp2_with fail
          go_ret
          exact ⟨_, L1, rfl, hP.out, HF.out, hQ.out, h2', hw2⟩
        | true =>
          rw [hlt2] at LN
          have hst := HT.out
          have HN := Lib.hid (DownP.step hst HUp.out (by rw [hl1.out]; exact hj) (by omega) (show j1 < n by omega) HPar.out HMin.out hlt2)
          clear hlt2 hst
          go_wp2_with fail
          refine LN.out.mono ?_
          rintro e w2 ⟨rfl, hb2⟩
          have h2' := HH.out.later hb2
          have hw2 := HW.out.trans (Fix.of_below hb2 (fun k hk => Nat.lt_of_lt_of_le (HS.out k hk) HH.out.2.2.2.2))
          have SM := Lib.hid (swap_h h2' hw2 i j1 (by rw [hl1.out]; omega) (by rw [hl1.out]; omega) (by rw [hl1.out]; exact hn))
          clear LN hb2 h2' hw2
          go_wp2_with fail
          refine SM.out.mono ?_
          rintro e w3 ⟨rfl, h3, hw3⟩
          have HP3 : Hid ((swp L1 i j1).Perm L) := (swp_perm (by rw [hl1.out]; omega) (by rw [hl1.out]; omega)).trans hP.out
          have HL3 : Hid ((swp L1 i j1).length = m) := (swp_len _ _ _).trans hl1.out
          have HQ3 : Hid (Tail n (swp L1 i j1) L) := fun k hk => by
            rw [at_swp (by rw [hl1.out]; omega) (by rw [hl1.out]; omega), if_neg (by omega), if_neg (by omega)]
            exact hQ.out k hk
          clear SM
          go_wp2_with fail
          go_roundw
          case rel => exact ⟨j1, swp L1 i j1, rfl, by omega, HL3, HP3, HQ3, HN.out, h3, hw3⟩
          case measure => simp [intOf]; omega
    · have a2 : decide ((2 : Int) * (i : Int) + 1 ≥ (n : Int)) = true := by simp; omega
      have a4 : (n : Int) ≤ (2 : Int) * (i : Int) + 1 := by omega
      have HF := Lib.hid (DownP.done hU (fun c c0 c1 cp => by omega))
      clear hU
      go_wp2_with fail
      go_ret
      exact ⟨_, L1, rfl, hP.out, HF.out, hQ.out, h, hw⟩
end
end Go.Proofs.Ytnfcigbiebbjdaa
