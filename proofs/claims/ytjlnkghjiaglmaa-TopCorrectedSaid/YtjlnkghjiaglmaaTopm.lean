/-
  The plain mathematics of a calendar that has run past 2100: no program in sight. The contract of fold of the last package.
  No conditions.
-/
import Derived.Test.YtjlnkghjiaglmaaRWrong
import Derived.Test.YtjlnkghjiaglmaaFmath
namespace Go.Proofs.Ytjlnkghjiaglmaa
open Go.RowKit

theorem num_2100 : Cal.num 2100 1 1 = 766644 := by decide
theorem num_2100b : Cal.num 2100 2 28 = 766702 := by decide
theorem yb_1900' : Cal.yb 1900 = 693595 := by decide
theorem yb_2101' : Cal.yb 2101 = 767009 := by decide
theorem yb_2200' : Cal.yb 2200 = 803168 := by decide
theorem num_1900' : Cal.num 1900 2 28 = 693653 := by decide
theorem crit_year {x : Int × Int × Int} (h : Cal.okT x) (h1 : 693654 ≤ Cal.numT x) (h2 : Cal.numT x < 803168) (hne : Cal.numT x ≠ 766702) : Cal.crit x = false := by
  obtain ⟨y, m, d⟩ := x
  cases hc : Cal.crit (y, m, d) with
  | false => rfl
  | true =>
    exfalso
    unfold Cal.crit at hc
    simp at hc
    obtain ⟨⟨rfl, rfl, h4⟩, hl⟩ := hc
    have hi := Cal.num_in h
    have hlp := Cal.lp_false.1 hl
    have h1' : 693654 ≤ Cal.num y 2 28 := h1
    have h2' : Cal.num y 2 28 < 803168 := h2
    have h3' : Cal.num y 2 28 ≠ 766702 := hne
    simp only at hi
    rcases Int.lt_or_le y 1900 with a | a
    · have := Cal.yb_mono (y + 1) 1900 (by omega)
      rw [yb_1900'] at this
      omega
    rcases Int.lt_or_le 2199 y with b | b
    · have := Cal.yb_mono 2200 y (by omega)
      rw [yb_2200'] at this
      omega
    by_cases c : y = 1900
    · subst c; rw [num_1900'] at h1'; omega
    by_cases e : y = 2100
    · subst e; exact h3' num_2100b
    omega
theorem next_ne (y m d : Int) (_h : Cal.ok y m d) : ¬ ((nextOf y m d).2.2 = d ∧ (nextOf y m d).2.1 = m) := by
  unfold nextOf
  rintro ⟨h1, h2⟩
  split at h1
  · simp only at h1; omega
  split at h1
  · rename_i a b
    rw [if_neg a, if_pos b] at h2
    simp only at h2
    omega
  · rename_i a b
    rw [if_neg a, if_neg b] at h2
    simp only at h2
    omega
/-- In one month the next day is in the same year. -/
theorem next_month (y m d : Int) (h : Cal.ok y m d) (hm : (nextOf y m d).2.1 = m) : (nextOf y m d).1 = y := by
  unfold nextOf at hm ⊢
  split
  · rfl
  rename_i a
  rw [if_neg a] at hm
  split
  · rfl
  rename_i b
  rw [if_neg b] at hm
  simp only at hm
  have := h.2.2.2.1
  omega
theorem set_ok' {y m d o : Int} (h : Cal.ok y m d) (h1 : 0 ≤ o) (h2 : o ≤ 58) : (Fc.set y m d o).ok := by
  have k := Wrong_ok h
  exact ⟨k.1, k.2.1, k.2.2.1, k.2.2.2.1, k.2.2.2.2.1, k.2.2.2.2.2.1, k.2.2.2.2.2.2.1, k.2.2.2.2.2.2.2.1, h1, h2⟩
/-- Where the face is, c days before 2100 begun, b days behind. -/
theorem face_then {y m d : Int} {c b : Nat} (hd : Cal.ok y m d) (hn : Cal.num y m d = 766644 - (c : Int)) (hc : c < 9000) (hb : b < 3000) :
    (b ≤ 58 ∧ (Fc.nights (c + b) (Fc.set y m d 7)).same (Cal.days (c + b) (y, m, d))) ∨
    (b = 59 ∧ (Fc.nights (c + b) (Fc.set y m d 7)).D = 29 ∧ (Fc.nights (c + b) (Fc.set y m d 7)).M = 2 ∧ Cal.days (c + b) (y, m, d) = (2100, 3, 1)) ∨
    (60 ≤ b ∧ ∃ j, c + b = j + 1 ∧ (Fc.nights (c + b) (Fc.set y m d 7)).same (Cal.days j (y, m, d))) := by
  have hk := fun (j : Nat) (hj : j ≤ c + b) => Cal.days_ok (x := (y, m, d)) hd j (by show Cal.num y m d + j ≤ _; omega)
  have hnum : ∀ j : Nat, j ≤ c + b → Cal.numT (Cal.days j (y, m, d)) = 766644 - (c : Int) + j := fun j hj => by rw [(hk j hj).2]; show Cal.num y m d + j = _; rw [hn]
  have hno : ∀ j : Nat, j ≤ c + b → j ≠ c + 58 → Cal.crit (Cal.days j (y, m, d)) = false := fun j hj hne => by
    have e := hnum j hj
    exact crit_year (hk j hj).1 (by rw [e]; omega) (by rw [e]; omega) (by rw [e]; omega)
  rcases Nat.lt_or_ge b 59 with h | h
  · exact .inl ⟨by omega, Fc.same_nights (x := (y, m, d)) hd (Fc.set_same y m d 7) (c + b) (by show Cal.num y m d + _ ≤ _; omega) fun j hj => hno j (by omega) (by omega)⟩
  right
  have e58 : Cal.days (c + 58) (y, m, d) = (2100, 2, 28) := by
    have hi := Cal.num_inj (y' := 2100) (m' := 2) (d' := 28) (hk (c + 58) (by omega)).1 (by decide) (by rw [num_2100b]; have := hnum (c + 58) (by omega); show Cal.numT _ = _; rw [this]; omega)
    exact Prod.ext hi.1 (Prod.ext hi.2.1 hi.2.2)
  have h58 := Fc.same_nights (x := (y, m, d)) hd (Fc.set_same y m d 7) (c + 58) (by show Cal.num y m d + _ ≤ _; omega) fun j hj => hno j (by omega) (by omega)
  have hw := Fc.wrong_step h58 (by rw [e58]; decide)
  rcases Nat.lt_or_ge 59 b with h6 | h6
  · right
    refine ⟨h6, c + b - 1, by omega, ?_⟩
    have key : ∀ i : Nat, c + 60 + i ≤ c + b → (Fc.nights (c + 60 + i) (Fc.set y m d 7)).same (Cal.days (c + 59 + i) (y, m, d)) := by
      intro i
      induction i with
      | zero =>
        intro _
        have e59 : Cal.days (c + 59) (y, m, d) = (2100, 3, 1) := by
          show nextOf _ _ _ = _
          rw [hw.2.2.2, e58]
        have hN : Fc.nights (c + 60) (Fc.set y m d 7) = (Fc.nights (c + 59) (Fc.set y m d 7)).night := rfl
        have hM : Fc.nights (c + 59) (Fc.set y m d 7) = (Fc.nights (c + 58) (Fc.set y m d 7)).night := rfl
        show (Fc.nights (c + 60) (Fc.set y m d 7)).same (Cal.days (c + 59) (y, m, d))
        rw [hN, hM, e59]
        obtain ⟨w1, w2, w3, _⟩ := hw
        generalize (Fc.nights (c + 58) (Fc.set y m d 7)).night = g at *
        obtain ⟨D, M, L, W, O⟩ := g
        simp only at w1 w2 w3
        subst w1 w2 w3
        exact ⟨rfl, rfl, rfl⟩
      | succ i ih =>
        intro hi
        have h1 := ih (by omega)
        exact Fc.same_step (hk (c + 59 + i) (by omega)).1 h1 (hno (c + 59 + i) (by omega) (by omega))
    have := key (b - 60) (by omega)
    rw [show c + 60 + (b - 60) = c + b by omega, show c + 59 + (b - 60) = c + b - 1 by omega] at this
    exact this
  · left
    obtain rfl : b = 59 := by omega
    refine ⟨rfl, hw.1, hw.2.1, ?_⟩
    show nextOf _ _ _ = _
    rw [hw.2.2.2, e58]

set_option maxHeartbeats 400000 in
theorem tfold_any (v n : Int) (w : World) (h1 : 1 ≤ n) (h2 : n ≤ 4000000) :
    Calls Try.prog 55 #[.int .i64 v, .int .i64 n] w fun e w' => e = .returned (.int .i64 (v % n)) ∧ w = w' := by
  go_enter Try.func55, Try.ntmps55
  go_wp2
  go_ret
  exact ⟨ret_int (fold_eq v n h1 h2), rfl⟩
end Go.Proofs.Ytjlnkghjiaglmaa
