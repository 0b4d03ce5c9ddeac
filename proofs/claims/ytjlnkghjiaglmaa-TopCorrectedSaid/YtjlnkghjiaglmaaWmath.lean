/-
  The plain mathematics of a calendar that goes wrong: no program in sight.
  No conditions.
-/
import Derived.Test.YtjlnkghjiaglmaaCal2
import Derived.Test.YtjlnkghjiaglmaaFc2
import Derived.Test.YtjlnkghjiaglmaaSets
namespace Go.Proofs.Ytjlnkghjiaglmaa
namespace Cal
theorem next_ok' {y m d y' m' d' : Int} (h : ok y m d) (hy : num y m d < 3652058) (hn : nextOf y m d = (y', m', d')) : ok y' m' d' ∧ num y' m' d' = num y m d + 1 := by
  obtain ⟨h1, h2, h3, h4, h5, h6⟩ := h
  have hh : ok y m d := ⟨h1, h2, h3, h4, h5, h6⟩
  by_cases h9 : y ≤ 9998
  · exact next_ok hh h9 hn
  obtain rfl : y = 9999 := by omega
  unfold nextOf at hn
  have b1 := dl_bd m (lp 9999)
  have s := cm_succ m (lp 9999) h3
  split at hn
  · obtain ⟨rfl, rfl, rfl⟩ : 9999 = y' ∧ m = m' ∧ d + 1 = d' := by simpa using hn
    exact ⟨⟨h1, h2, h3, h4, by omega, by omega⟩, by unfold num; omega⟩
  split at hn
  · obtain ⟨rfl, rfl, rfl⟩ : 9999 = y' ∧ m + 1 = m' ∧ 1 = d' := by simpa using hn
    have b2 := dl_bd (m + 1) (lp 9999)
    exact ⟨⟨h1, h2, by omega, by omega, by omega, by omega⟩, by unfold num; omega⟩
  · exfalso
    obtain rfl : m = 12 := by omega
    have e : dl 12 (lp 9999) = 31 := by decide
    have : d = 31 := by omega
    subst this
    rw [num_max] at hy
    omega
/-- The date some days later. -/
def days : Nat → Int × Int × Int → Int × Int × Int
  | 0, x => x
  | k + 1, x => nextOf (days k x).1 (days k x).2.1 (days k x).2.2
abbrev okT (x : Int × Int × Int) : Prop := ok x.1 x.2.1 x.2.2
abbrev numT (x : Int × Int × Int) : Int := num x.1 x.2.1 x.2.2
theorem days_ok {x : Int × Int × Int} (h : okT x) : ∀ k : Nat, numT x + k ≤ 3652058 → okT (days k x) ∧ numT (days k x) = numT x + k
  | 0, _ => ⟨h, by show numT x = _; omega⟩
  | k + 1, hk => by
    have ih := days_ok h k (by omega)
    have := next_ok' (y' := (days (k + 1) x).1) (m' := (days (k + 1) x).2.1) (d' := (days (k + 1) x).2.2) ih.1 (by have := ih.2; unfold numT at *; omega) rfl
    refine ⟨this.1, ?_⟩
    show num _ _ _ = _
    rw [this.2]
    have := ih.2
    unfold numT at *
    omega
/-- The last day of a February that the mechanism takes for one of a leap year. -/
def crit (x : Int × Int × Int) : Bool := decide (x.2.1 = 2 ∧ x.2.2 = 28 ∧ x.1 % 4 = 0) && !lp x.1
end Cal
namespace Fc
/-- The face shows the day and the month, and the leap. -/
def same (f : Fc) (x : Int × Int × Int) : Prop := f.D = x.2.2 ∧ f.M = x.2.1 ∧ f.L = x.1 % 4
theorem dl_face (m : Int) (y : Int) (h : ¬ (m = 2 ∧ y % 4 = 0 ∧ Cal.lp y = false)) : Cal.dl m (y % 4 == 0) = Cal.dl m (Cal.lp y) := by
  by_cases hm : m = 2
  · subst hm
    cases hl : Cal.lp y with
    | true => have := (Cal.lp_true.1 hl).1; rw [this]; rfl
    | false =>
      have h4 : y % 4 ≠ 0 := fun e => h ⟨rfl, e, hl⟩
      have : (y % 4 == 0) = false := by simpa using h4
      rw [this]
  · unfold Cal.dl
    rw [if_neg hm, if_neg hm]
theorem same_step {f : Fc} {x : Int × Int × Int} (hx : Cal.okT x) (hs : f.same x) (hc : Cal.crit x = false) : f.night.same (nextOf x.1 x.2.1 x.2.2) := by
  obtain ⟨y, m, d⟩ := x
  obtain ⟨D, M, L, W, O⟩ := f
  obtain ⟨e1, e2, e3⟩ := hs
  simp only at e1 e2 e3
  subst e1 e2 e3
  obtain ⟨h1, h2, h3, h4, h5, h6⟩ := hx
  simp only at h1 h2 h3 h4 h5 h6
  have hl : (Fc.mk D M (y % 4) W O).lst = Cal.dl M (y % 4 == 0) := rfl
  unfold Fc.same night moon wday
  show (Fc.day _).D = _ ∧ (Fc.day _).M = _ ∧ (Fc.day _).L = _
  unfold day nextOf
  rw [hl]
  have key : (D = Cal.dl M (y % 4 == 0) ↔ ¬ D < Cal.dl M (Cal.lp y)) := by
    by_cases hb : M = 2 ∧ y % 4 = 0 ∧ Cal.lp y = false
    · obtain ⟨rfl, h40, hlf⟩ := hb
      have a1 : Cal.dl 2 (y % 4 == 0) = 29 := by rw [h40]; rfl
      have a2 : Cal.dl 2 (Cal.lp y) = 28 := by rw [hlf]; rfl
      have a3 : D ≠ 28 := by
        rintro rfl
        unfold Cal.crit at hc
        simp [h40, hlf] at hc
      rw [a1, a2]
      rw [a2] at h6
      omega
    · rw [dl_face M y hb]; omega
  by_cases hd : D < Cal.dl M (Cal.lp y)
  · rw [if_pos hd, if_neg (fun e => key.1 e hd)]
    exact ⟨rfl, rfl, rfl⟩
  · rw [if_neg hd, if_pos (key.2 hd)]
    unfold mon
    by_cases hm : M < 12
    · rw [if_pos hm, if_pos hm]; exact ⟨rfl, rfl, rfl⟩
    · rw [if_neg hm, if_neg hm]
      refine ⟨rfl, rfl, ?_⟩
      show (y % 4 + 1) % 4 = (y + 1) % 4
      omega
theorem wrong_step {f : Fc} {x : Int × Int × Int} (hs : f.same x) (hc : Cal.crit x = true) : f.night.D = 29 ∧ f.night.M = 2 ∧ f.night.L = 0 ∧ nextOf x.1 x.2.1 x.2.2 = (x.1, 3, 1) := by
  obtain ⟨y, m, d⟩ := x
  obtain ⟨D, M, L, W, O⟩ := f
  obtain ⟨e1, e2, e3⟩ := hs
  simp only at e1 e2 e3
  subst e1 e2 e3
  unfold Cal.crit at hc
  simp at hc
  obtain ⟨⟨rfl, rfl, h4⟩, hl⟩ := hc
  have hl' : (Fc.mk 28 2 (y % 4) W O).lst = 29 := by show Cal.dl 2 (y % 4 == 0) = 29; rw [h4]; rfl
  have hdy : Fc.day ⟨28, 2, y % 4, W, O⟩ = ⟨29, 2, y % 4, W, O⟩ := by unfold day; rw [hl', if_neg (by show ¬ (28 : Int) = 29; omega)]; rfl
  unfold night moon wday
  rw [hdy]
  refine ⟨rfl, rfl, h4, ?_⟩
  unfold nextOf
  rw [hl]
  rfl
/-- As long as no such day has passed the face follows the date. -/
theorem same_nights {f : Fc} {x : Int × Int × Int} (hx : Cal.okT x) (hs : f.same x) : ∀ k : Nat, Cal.numT x + k ≤ 3652058 → (∀ j, j < k → Cal.crit (Cal.days j x) = false) → (nights k f).same (Cal.days k x)
  | 0, _, _ => hs
  | k + 1, hk, hc => same_step (Cal.days_ok hx k (by omega)).1 (same_nights hx hs k (by omega) fun j hj => hc j (by omega)) (hc k (by omega))
/-- Does the face show a wrong date behind so many midnights? -/
def badB (f : Fc) (x : Int × Int × Int) (k : Nat) : Bool := !((nights k f).showsB (Cal.days k x).1 (Cal.days k x).2.1 (Cal.days k x).2.2)
/-- The first number from i on of which p holds, -1: none. -/
def first (p : Nat → Bool) : Nat → Nat → Int
  | _, 0 => -1
  | i, n + 1 => if p i = true then i else first p (i + 1) n
theorem first_none {p : Nat → Bool} : ∀ (n i : Nat), (∀ j, i ≤ j → j < i + n → p j = false) → first p i n = -1
  | 0, _, _ => rfl
  | n + 1, i, h => by
    unfold first
    rw [if_neg (by rw [h i (by omega) (by omega)]; exact Bool.false_ne_true)]
    exact first_none n (i + 1) fun j h1 h2 => h j (by omega) (by omega)
theorem first_some {p : Nat → Bool} : ∀ (n i k : Nat), i ≤ k → k < i + n → (∀ j, i ≤ j → j < k → p j = false) → p k = true → first p i n = k
  | 0, _, _, h1, h2, _, _ => by omega
  | n + 1, i, k, h1, h2, h3, h4 => by
    unfold first
    by_cases e : i = k
    · subst e; rw [if_pos h4]
    · rw [if_neg (by rw [h3 i (by omega) (by omega)]; exact Bool.false_ne_true)]
      exact first_some n (i + 1) k (by omega) (by omega) (fun j a b => h3 j (by omega) b) h4
theorem set_same (y m d o : Int) : (Fc.set y m d o).same (y, m, d) := ⟨rfl, rfl, rfl⟩
theorem nights_week {y m d o : Int} (h : Cal.ok y m d) (k : Nat) (hk : Cal.num y m d + k ≤ 3652058) : (nights k (Fc.set y m d o)).W = (Cal.numT (Cal.days k (y, m, d)) + 1) % 7 := by
  have b := Cal.num_bd h
  rw [nights_W _ (by show 0 ≤ (Cal.num y m d + 1) % 7 ∧ (Cal.num y m d + 1) % 7 ≤ 6; omega), (Cal.days_ok (x := (y, m, d)) h k hk).2]
  show ((Cal.num y m d + 1) % 7 + k) % 7 = (Cal.num y m d + k + 1) % 7
  omega
theorem bad_iff {y m d o : Int} (h : Cal.ok y m d) (k : Nat) (hk : Cal.num y m d + k ≤ 3652058) :
    badB (Fc.set y m d o) (y, m, d) k = false ↔ (nights k (Fc.set y m d o)).D = (Cal.days k (y, m, d)).2.2 ∧ (nights k (Fc.set y m d o)).M = (Cal.days k (y, m, d)).2.1 := by
  have hw := nights_week (o := o) h k hk
  unfold badB showsB
  rw [Bool.not_eq_false', decide_eq_true_eq]
  constructor
  · exact fun h => ⟨h.1, h.2.1⟩
  · exact fun h => ⟨h.1, h.2, hw⟩
theorem good_of {y m d o : Int} (h : Cal.ok y m d) (k : Nat) (hk : Cal.num y m d + k ≤ 3652058) (hc : ∀ j, j < k → Cal.crit (Cal.days j (y, m, d)) = false) : badB (Fc.set y m d o) (y, m, d) k = false := by
  have := same_nights (x := (y, m, d)) h (set_same y m d o) k hk hc
  exact (bad_iff h k hk).2 ⟨this.1, this.2.1⟩
theorem bad_of {y m d o : Int} (h : Cal.ok y m d) (k : Nat) (hk : Cal.num y m d + k + 1 ≤ 3652058) (hc : ∀ j, j < k → Cal.crit (Cal.days j (y, m, d)) = false) (hk1 : Cal.crit (Cal.days k (y, m, d)) = true) :
    badB (Fc.set y m d o) (y, m, d) (k + 1) = true := by
  have h1 := same_nights (x := (y, m, d)) h (set_same y m d o) k (by show Cal.num y m d + k ≤ 3652058; omega) hc
  have h2 := wrong_step h1 hk1
  have h3 : badB (Fc.set y m d o) (y, m, d) (k + 1) ≠ false := by
    rw [Ne, bad_iff h (k + 1) (by omega)]
    rintro ⟨e1, e2⟩
    have e3 : (nights (k + 1) (Fc.set y m d o)).M = 2 := h2.2.1
    rw [e3] at e2
    have e4 : Cal.days (k + 1) (y, m, d) = ((Cal.days k (y, m, d)).1, 3, 1) := h2.2.2.2
    rw [e4] at e2
    simp at e2
  simpa using h3
theorem exists_first {p : Nat → Bool} : ∀ n : Nat, (∀ j, j < n → p j = false) ∨ ∃ k, k < n ∧ p k = true ∧ ∀ j, j < k → p j = false
  | 0 => .inl fun j h => by omega
  | n + 1 => by
    rcases exists_first n with h | ⟨k, h1, h2, h3⟩
    · cases hp : p n with
      | true => exact .inr ⟨n, by omega, hp, h⟩
      | false =>
        refine .inl fun j hj => ?_
        by_cases e : j = n
        · subst e; exact hp
        · exact h j (by omega)
    · exact .inr ⟨k, by omega, h2, h3⟩
/-- What Wrong finds: the midnight behind the first such day, or none. -/
theorem wrong_is {y m d : Int} (h : Cal.ok y m d) (n : Nat) (hn : Cal.num y m d + n ≤ 3652058) :
    (first (badB (Fc.set y m d 0) (y, m, d)) 0 (n + 1) = -1 ∧ ∀ j, j < n → Cal.crit (Cal.days j (y, m, d)) = false) ∨
    ∃ k : Nat, k < n ∧ first (badB (Fc.set y m d 0) (y, m, d)) 0 (n + 1) = (k : Int) + 1 ∧ Cal.crit (Cal.days k (y, m, d)) = true := by
  rcases exists_first (p := fun j => Cal.crit (Cal.days j (y, m, d))) n with hc | ⟨k, hk, h1, h2⟩
  · left
    exact ⟨first_none _ _ fun j _ hj => good_of h j (by omega) fun i hi => hc i (by omega), hc⟩
  · right
    refine ⟨k, hk, ?_, h1⟩
    have := first_some (p := badB (Fc.set y m d 0) (y, m, d)) (n + 1) 0 (k + 1) (by omega) (by omega) (fun j _ hj => good_of h j (by omega) fun i hi => h2 i (by omega)) (bad_of h k (by omega) h2 h1)
    rw [this]
    rfl
end Fc
end Go.Proofs.Ytjlnkghjiaglmaa
