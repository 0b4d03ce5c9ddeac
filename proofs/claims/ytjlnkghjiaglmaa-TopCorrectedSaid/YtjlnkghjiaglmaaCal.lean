/-
  The plain mathematics of dates: no program in sight.
  No conditions.
-/
namespace Go.Proofs.Ytjlnkghjiaglmaa.Cal

/-- Is a year a leap year? -/
def lp (y : Int) : Bool := decide (y % 4 = 0 ∧ (y % 100 ≠ 0 ∨ y % 400 = 0))
theorem lp_true {y : Int} : lp y = true ↔ y % 4 = 0 ∧ (y % 100 ≠ 0 ∨ y % 400 = 0) := by simp [lp]
theorem lp_false {y : Int} : lp y = false ↔ ¬ (y % 4 = 0 ∧ (y % 100 ≠ 0 ∨ y % 400 = 0)) := by simp only [lp, decide_eq_false_iff_not]

/-- The days of a month, of a leap year or not. -/
def dl (m : Int) (l : Bool) : Int :=
  if m = 2 then (if l = true then 29 else 28) else if m = 4 ∨ m = 6 ∨ m = 9 ∨ m = 11 then 30 else 31
theorem dl_bd (m : Int) (l : Bool) : 28 ≤ dl m l ∧ dl m l ≤ 31 := by unfold dl; split <;> (try split) <;> omega
theorem dl_two (l : Bool) : dl 2 l = if l = true then 29 else 28 := by simp [dl]

/-- The days before month k + 1. -/
def cum : Nat → Bool → Int
  | 0, _ => 0
  | k + 1, l => cum k l + dl ((k : Int) + 1) l
theorem cum_succ (k : Nat) (l : Bool) : cum (k + 1) l = cum k l + dl ((k : Int) + 1) l := rfl
theorem cum_bd (k : Nat) (l : Bool) : 28 * (k : Int) ≤ cum k l ∧ cum k l ≤ 31 * k := by
  induction k with
  | zero => simp [cum]
  | succ k ih => have := dl_bd ((k : Int) + 1) l; rw [cum_succ]; omega
theorem cum_mono (a b : Nat) (l : Bool) (h : a ≤ b) : cum a l ≤ cum b l := by
  induction b with
  | zero => have : a = 0 := by omega
            subst this; exact Int.le_refl _
  | succ b ih =>
    rcases Nat.lt_or_ge b a with h' | h'
    · have : a = b + 1 := by omega
      subst this; exact Int.le_refl _
    · have := ih h'; have := dl_bd ((b : Int) + 1) l; rw [cum_succ]; omega
theorem cum_12 (l : Bool) : cum 12 l = if l = true then 366 else 365 := by cases l <;> decide
/-- The days before month m. -/
def cm (m : Int) (l : Bool) : Int := cum (m - 1).toNat l
theorem cm_nat (k : Nat) (l : Bool) : cm ((k : Int) + 1) l = cum k l := by unfold cm; rw [show ((k : Int) + 1 - 1).toNat = k by omega]
theorem cm_succ (m : Int) (l : Bool) (h : 1 ≤ m) : cm (m + 1) l = cm m l + dl m l := by
  obtain ⟨k, rfl⟩ : ∃ k : Nat, m = (k : Int) + 1 := ⟨(m - 1).toNat, by omega⟩
  have : (k : Int) + 1 + 1 = ((k + 1 : Nat) : Int) + 1 := by omega
  rw [this, cm_nat, cm_nat, cum_succ]
theorem cm_one (l : Bool) : cm 1 l = 0 := rfl
theorem cm_13 (l : Bool) : cm 13 l = if l = true then 366 else 365 := by
  have : (13 : Int) = ((12 : Nat) : Int) + 1 := rfl
  rw [this, cm_nat, cum_12]
theorem cm_mono (a b : Int) (l : Bool) (h : a ≤ b) : cm a l ≤ cm b l := cum_mono _ _ _ (by omega)
theorem cm_bd (m : Int) (l : Bool) (h1 : 1 ≤ m) (h2 : m ≤ 13) : 28 * (m - 1) ≤ cm m l ∧ cm m l ≤ 31 * (m - 1) := by
  have := cum_bd (m - 1).toNat l
  unfold cm
  omega

/-- The days before year y. -/
def yb (y : Int) : Int := 365 * (y - 1) + (y - 1) / 4 - (y - 1) / 100 + (y - 1) / 400
/-- The days of year y. -/
def yl (y : Int) : Int := if lp y = true then 366 else 365
theorem yb_one : yb 1 = 0 := by decide
theorem yb_succ (y : Int) : yb (y + 1) = yb y + yl y := by
  unfold yb yl
  by_cases h : lp y = true
  · rw [if_pos h]; have := lp_true.1 h; omega
  · rw [if_neg h]; have h' : lp y = false := by simpa using h
    have := lp_false.1 h'; omega
theorem yl_bd (y : Int) : 365 ≤ yl y ∧ yl y ≤ 366 := by unfold yl; split <;> omega
theorem yl_cm (y : Int) : yl y = cm 13 (lp y) := by rw [cm_13]; rfl
theorem yb_mono (a b : Int) (h : a ≤ b) : yb a ≤ yb b := by unfold yb; omega
theorem yb_bd (y : Int) (h1 : 1 ≤ y) (h2 : y ≤ 10000) : 0 ≤ yb y ∧ yb y ≤ 3652059 := by unfold yb; omega
theorem yb_max : yb 10000 = 3652059 := by decide

/-- A date that is one. -/
def ok (y m d : Int) : Prop := 1 ≤ y ∧ y ≤ 9999 ∧ 1 ≤ m ∧ m ≤ 12 ∧ 1 ≤ d ∧ d ≤ dl m (lp y)
instance (y m d : Int) : Decidable (ok y m d) := by unfold ok; exact inferInstance
/-- Its number. -/
def num (y m d : Int) : Int := yb y + cm m (lp y) + d - 1
theorem num_in {y m d : Int} (h : ok y m d) : yb y ≤ num y m d ∧ num y m d < yb (y + 1) := by
  obtain ⟨_, _, h3, h4, h5, h6⟩ := h
  have a := cm_succ m (lp y) h3
  have b := cm_mono (m + 1) 13 (lp y) (by omega)
  have c := cm_mono 1 m (lp y) h3
  have e := cm_one (lp y)
  rw [yb_succ, yl_cm]
  unfold num
  omega
theorem num_bd {y m d : Int} (h : ok y m d) : 0 ≤ num y m d ∧ num y m d ≤ 3652058 := by
  have a := num_in h
  have b := yb_mono 1 y h.1
  have c := yb_mono (y + 1) 10000 (by have := h.2.1; omega)
  rw [yb_one] at b; rw [yb_max] at c
  omega
theorem year_of {a b n : Int} (h1 : yb a ≤ n) (h2 : n < yb (a + 1)) (h3 : yb b ≤ n) (h4 : n < yb (b + 1)) : a = b := by
  rcases Int.lt_trichotomy a b with h | h | h
  · have := yb_mono (a + 1) b (by omega); omega
  · exact h
  · have := yb_mono (b + 1) a (by omega); omega
theorem month_of {a b n : Int} {l : Bool} (h1 : cm a l ≤ n) (h2 : n < cm (a + 1) l) (h3 : cm b l ≤ n) (h4 : n < cm (b + 1) l) : a = b := by
  rcases Int.lt_trichotomy a b with h | h | h
  · have := cm_mono (a + 1) b l (by omega); omega
  · exact h
  · have := cm_mono (b + 1) a l (by omega); omega
theorem num_inj {y m d y' m' d' : Int} (h : ok y m d) (h' : ok y' m' d') (e : num y m d = num y' m' d') : y = y' ∧ m = m' ∧ d = d' := by
  have a := num_in h
  have a' := num_in h'
  have ey : y = y' := year_of a.1 a.2 (by omega) (by omega)
  subst ey
  obtain ⟨_, _, h3, h4, h5, h6⟩ := h
  obtain ⟨_, _, h3', h4', h5', h6'⟩ := h'
  have s := cm_succ m (lp y) h3
  have s' := cm_succ m' (lp y) h3'
  unfold num at e
  have em : m = m' := month_of (n := cm m (lp y) + d - 1) (l := lp y) (by omega) (by omega) (by omega) (by omega)
  subst em
  exact ⟨rfl, rfl, by omega⟩
theorem num_max : num 9999 12 31 = 3652058 := by decide

/-- The year that package dial finds. -/
theorem found_year (n : Int) (h1 : 0 ≤ n) (h2 : n ≤ 3652058) (a r h s f t o : Int) (ea : a = n / 146097) (er : r = n % 146097) (eh : h = min (r / 36524) 3) (es : s = r - h * 36524)
    (ef : f = s / 1461) (et : t = s - f * 1461) (eo : o = min (t / 365) 3) :
    yb (1 + a * 400 + (100 * h + 4 * f + o)) = n - (t - o * 365) ∧ 0 ≤ t - o * 365 ∧ t - o * 365 < yl (1 + a * 400 + (100 * h + 4 * f + o)) ∧
      1 ≤ 1 + a * 400 + (100 * h + 4 * f + o) ∧ 1 + a * 400 + (100 * h + 4 * f + o) ≤ 9999 := by
  have hh : 0 ≤ h ∧ h ≤ 3 ∧ 0 ≤ s ∧ (h < 3 → s < 36524) ∧ (h = 3 → s < 36525) := by omega
  have hf : 0 ≤ f ∧ f ≤ 24 ∧ 0 ≤ t ∧ t < 1461 := by omega
  have ho : 0 ≤ o ∧ o ≤ 3 ∧ 0 ≤ t - o * 365 ∧ (o < 3 → t - o * 365 < 365) ∧ (o = 3 → t - o * 365 < 366) := by omega
  have hy4 : (1 + a * 400 + (100 * h + 4 * f + o) - 1) / 4 = 100 * a + 25 * h + f := by omega
  have hy100 : (1 + a * 400 + (100 * h + 4 * f + o) - 1) / 100 = 4 * a + h := by omega
  have hy400 : (1 + a * 400 + (100 * h + 4 * f + o) - 1) / 400 = a := by omega
  refine ⟨by unfold yb; rw [hy4, hy100, hy400]; omega, by omega, ?_, by omega, by omega⟩
  unfold yl
  by_cases hl : lp (1 + a * 400 + (100 * h + 4 * f + o)) = true
  · rw [if_pos hl]; omega
  · rw [if_neg hl]
    have hl' : lp (1 + a * 400 + (100 * h + 4 * f + o)) = false := by simpa using hl
    have := lp_false.1 hl'
    by_cases e : o = 3
    · by_cases e4 : f = 24
      · by_cases eh3 : h = 3
        · exfalso; omega
        · omega
      · exfalso; omega
    · omega

theorem exists_cum (r : Int) (l : Bool) (h0 : 0 ≤ r) : ∀ j : Nat, r < cum j l → ∃ k : Nat, k < j ∧ cum k l ≤ r ∧ r < cum (k + 1) l
  | 0, h => by simp [cum] at h; omega
  | j + 1, h => by
    by_cases hj : r < cum j l
    · obtain ⟨k, h1, h2, h3⟩ := exists_cum r l h0 j hj
      exact ⟨k, by omega, h2, h3⟩
    · exact ⟨j, by omega, by omega, h⟩
theorem exists_date (n : Int) (h1 : 0 ≤ n) (h2 : n ≤ 3652058) : ∃ y m d, ok y m d ∧ num y m d = n := by
  obtain ⟨a, b, c, e, f⟩ := found_year n h1 h2 _ _ _ _ _ _ _ rfl rfl rfl rfl rfl rfl rfl
  generalize 1 + n / 146097 * 400 + (100 * min (n % 146097 / 36524) 3 + 4 * ((n % 146097 - min (n % 146097 / 36524) 3 * 36524) / 1461) +
    min ((n % 146097 - min (n % 146097 / 36524) 3 * 36524 - (n % 146097 - min (n % 146097 / 36524) 3 * 36524) / 1461 * 1461) / 365) 3) = y at *
  have hr : n - yb y < cum 12 (lp y) := by rw [cum_12]; unfold yl at c; omega
  obtain ⟨k, g1, g2, g3⟩ := exists_cum (n - yb y) (lp y) (by omega) 12 hr
  refine ⟨y, (k : Int) + 1, n - yb y - cum k (lp y) + 1, ⟨e, f, by omega, by omega, by omega, ?_⟩, ?_⟩
  · rw [cum_succ] at g3; omega
  · unfold num; rw [cm_nat]; omega

theorem month_lt {m d : Int} {k : Nat} {l : Bool} (h3 : 1 ≤ m) (h6 : d ≤ dl m l) (h : cum (k + 1) l ≤ cm m l + d - 1) : (k : Int) + 2 ≤ m := by
  rcases Int.lt_or_le m ((k : Int) + 2) with hlt | hge
  · have a := cm_succ m l h3
    have b := cm_mono (m + 1) (((k + 1 : Nat) : Int) + 1) l (by omega)
    rw [cm_nat] at b
    omega
  · exact hge
theorem month_eq {m d : Int} {k : Nat} {l : Bool} (h5 : 1 ≤ d) (hk : (k : Int) + 1 ≤ m) (h : cm m l + d - 1 < cum (k + 1) l) : m = (k : Int) + 1 := by
  rcases Int.lt_or_le ((k : Int) + 1) m with hlt | hge
  · have b := cm_mono (((k + 1 : Nat) : Int) + 1) m l (by omega)
    rw [cm_nat] at b
    omega
  · omega
end Go.Proofs.Ytjlnkghjiaglmaa.Cal
