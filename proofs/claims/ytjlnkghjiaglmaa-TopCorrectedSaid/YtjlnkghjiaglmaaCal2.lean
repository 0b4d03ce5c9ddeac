/-
  The plain mathematics of the day after a date, and of dates 400 years apart.
  No conditions.
-/
import Derived.Test.YtjlnkghjiaglmaaSome
namespace Go.Proofs.Ytjlnkghjiaglmaa.Cal

theorem yb_9999 : yb 9999 = 3651694 := by decide
theorem year_small {y m d : Int} (h : ok y m d) (hn : num y m d < 3651694) : y ≤ 9998 := by
  rcases Int.lt_or_le 9998 y with h' | h'
  · have a := yb_mono 9999 y (by omega)
    have b := (num_in h).1
    rw [yb_9999] at a
    omega
  · exact h'
theorem next_ok {y m d y' m' d' : Int} (h : ok y m d) (hy : y ≤ 9998) (hn : nextOf y m d = (y', m', d')) : ok y' m' d' ∧ num y' m' d' = num y m d + 1 := by
  obtain ⟨h1, h2, h3, h4, h5, h6⟩ := h
  unfold nextOf at hn
  have b1 := dl_bd m (lp y)
  have s := cm_succ m (lp y) h3
  split at hn
  · obtain ⟨rfl, rfl, rfl⟩ : y = y' ∧ m = m' ∧ d + 1 = d' := by simpa using hn
    exact ⟨⟨h1, h2, h3, h4, by omega, by omega⟩, by unfold num; omega⟩
  split at hn
  · obtain ⟨rfl, rfl, rfl⟩ : y = y' ∧ m + 1 = m' ∧ 1 = d' := by simpa using hn
    have b2 := dl_bd (m + 1) (lp y)
    exact ⟨⟨h1, h2, by omega, by omega, by omega, by omega⟩, by unfold num; omega⟩
  · obtain ⟨rfl, rfl, rfl⟩ : y + 1 = y' ∧ 1 = m' ∧ 1 = d' := by simpa using hn
    have b2 := dl_bd 1 (lp (y + 1))
    refine ⟨⟨by omega, by omega, by omega, by omega, by omega, by omega⟩, ?_⟩
    have hm : m = 12 := by omega
    subst hm
    unfold num
    rw [yb_succ, yl_cm, cm_one, show (13 : Int) = 12 + 1 from rfl, s]
    omega
theorem lp_400 (y : Int) : lp (y + 400) = lp y := by
  unfold lp
  have e1 : (y + 400) % 4 = y % 4 := by omega
  have e2 : (y + 400) % 100 = y % 100 := by omega
  have e3 : (y + 400) % 400 = y % 400 := by omega
  rw [e1, e2, e3]
theorem yb_400 (y : Int) : yb (y + 400) = yb y + 146097 := by unfold yb; omega
theorem num_400 (y m d : Int) : num (y + 400) m d = num y m d + 146097 := by unfold num; rw [lp_400, yb_400]; omega
theorem num_first (y : Int) : num (y + 1) 1 1 - num y 1 1 = cm 13 (lp y) := by
  unfold num
  rw [yb_succ, yl_cm, cm_one, cm_one]
  omega
end Go.Proofs.Ytjlnkghjiaglmaa.Cal
