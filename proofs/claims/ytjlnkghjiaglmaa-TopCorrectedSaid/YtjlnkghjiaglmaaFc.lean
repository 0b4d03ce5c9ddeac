/-
  The plain mathematics of a perpetual calendar's face: no program in sight.
  No conditions.
-/
import Derived.Test.YtjlnkghjiaglmaaCal
namespace Go.Proofs.Ytjlnkghjiaglmaa

/-- A face: day, month, leap, weekday, moon. -/
structure Fc where
  D : Int
  M : Int
  L : Int
  W : Int
  O : Int
namespace Fc
/-- The last day of a face's month. -/
def lst (f : Fc) : Int := Cal.dl f.M (f.L == 0)
def ok (f : Fc) : Prop := 1 ≤ f.M ∧ f.M ≤ 12 ∧ 0 ≤ f.L ∧ f.L ≤ 3 ∧ 1 ≤ f.D ∧ f.D ≤ f.lst ∧ 0 ≤ f.W ∧ f.W ≤ 6 ∧ 0 ≤ f.O ∧ f.O ≤ 58
instance (f : Fc) : Decidable f.ok := by unfold ok; exact inferInstance
def mon (f : Fc) : Fc := if f.M < 12 then ⟨f.D, f.M + 1, f.L, f.W, f.O⟩ else ⟨f.D, 1, (f.L + 1) % 4, f.W, f.O⟩
def day (f : Fc) : Fc := if f.D = f.lst then mon ⟨1, f.M, f.L, f.W, f.O⟩ else ⟨f.D + 1, f.M, f.L, f.W, f.O⟩
def wday (f : Fc) : Fc := ⟨f.D, f.M, f.L, (f.W + 1) % 7, f.O⟩
def moon (f : Fc) : Fc := ⟨f.D, f.M, f.L, f.W, (f.O + 1) % 59⟩
def night (f : Fc) : Fc := f.day.wday.moon
/-- The month gone on by the corrector. -/
def pushM (f : Fc) : Fc := ⟨min f.D f.mon.lst, f.mon.M, f.mon.L, f.mon.W, f.mon.O⟩
theorem lst_bd (f : Fc) : 28 ≤ f.lst ∧ f.lst ≤ 31 := Cal.dl_bd _ _
/-- The part that the months need. -/
def okM (f : Fc) : Prop := 1 ≤ f.M ∧ f.M ≤ 12 ∧ 0 ≤ f.L ∧ f.L ≤ 3
theorem ok.okM {f : Fc} (h : f.ok) : f.okM := ⟨h.1, h.2.1, h.2.2.1, h.2.2.2.1⟩
theorem mon_okM {f : Fc} (h : f.okM) : f.mon.okM := by
  obtain ⟨h1, h2, h3, h4⟩ := h
  unfold mon okM
  split
  · exact ⟨by show 1 ≤ f.M + 1; omega, by show f.M + 1 ≤ 12; omega, h3, h4⟩
  · exact ⟨Int.le_refl _, by show (1 : Int) ≤ 12; omega, by show 0 ≤ (f.L + 1) % 4; omega, by show (f.L + 1) % 4 ≤ 3; omega⟩
theorem mon_D (f : Fc) : f.mon.D = f.D := by unfold mon; split <;> rfl
theorem mon_W (f : Fc) : f.mon.W = f.W := by unfold mon; split <;> rfl
theorem mon_O (f : Fc) : f.mon.O = f.O := by unfold mon; split <;> rfl
theorem day_ok {f : Fc} (h : f.ok) : f.day.ok := by
  have h' := h
  obtain ⟨h1, h2, h3, h4, h5, h6, h7, h8, h9, h10⟩ := h
  unfold day
  split
  · rename_i e
    have k := mon_okM (f := ⟨1, f.M, f.L, f.W, f.O⟩) ⟨h1, h2, h3, h4⟩
    have b := lst_bd (mon ⟨1, f.M, f.L, f.W, f.O⟩)
    refine ⟨k.1, k.2.1, k.2.2.1, k.2.2.2, ?_, ?_, ?_, ?_, ?_, ?_⟩
    · rw [mon_D]; exact Int.le_refl _
    · rw [mon_D]; show 1 ≤ _; omega
    · rw [mon_W]; exact h7
    · rw [mon_W]; exact h8
    · rw [mon_O]; exact h9
    · rw [mon_O]; exact h10
  · rename_i e
    exact ⟨h1, h2, h3, h4, by show 1 ≤ f.D + 1; omega, by show f.D + 1 ≤ f.lst; omega, h7, h8, h9, h10⟩
theorem wday_ok {f : Fc} (h : f.ok) : f.wday.ok := by
  obtain ⟨h1, h2, h3, h4, h5, h6, h7, h8, h9, h10⟩ := h
  exact ⟨h1, h2, h3, h4, h5, h6, by show 0 ≤ (f.W + 1) % 7; omega, by show (f.W + 1) % 7 ≤ 6; omega, h9, h10⟩
theorem moon_ok {f : Fc} (h : f.ok) : f.moon.ok := by
  obtain ⟨h1, h2, h3, h4, h5, h6, h7, h8, h9, h10⟩ := h
  exact ⟨h1, h2, h3, h4, h5, h6, h7, h8, by show 0 ≤ (f.O + 1) % 59; omega, by show (f.O + 1) % 59 ≤ 58; omega⟩
theorem night_ok {f : Fc} (h : f.ok) : f.night.ok := moon_ok (wday_ok (day_ok h))
theorem pushM_ok {f : Fc} (h : f.ok) : f.pushM.ok := by
  have k := mon_okM h.okM
  obtain ⟨h1, h2, h3, h4, h5, h6, h7, h8, h9, h10⟩ := h
  have b := lst_bd f.mon
  unfold pushM
  refine ⟨k.1, k.2.1, k.2.2.1, k.2.2.2, ?_, ?_, ?_, ?_, ?_, ?_⟩
  · show 1 ≤ min f.D f.mon.lst; omega
  · show min f.D f.mon.lst ≤ f.mon.lst; omega
  · show 0 ≤ f.mon.W; rw [mon_W]; exact h7
  · show f.mon.W ≤ 6; rw [mon_W]; exact h8
  · show 0 ≤ f.mon.O; rw [mon_O]; exact h9
  · show f.mon.O ≤ 58; rw [mon_O]; exact h10
/-- Some midnights. -/
def nights : Nat → Fc → Fc
  | 0, f => f
  | k + 1, f => (nights k f).night
theorem nights_ok {f : Fc} (h : f.ok) : ∀ k, (nights k f).ok
  | 0 => h
  | k + 1 => night_ok (nights_ok h k)
theorem nights_add (f : Fc) (a : Nat) : ∀ b, nights (a + b) f = nights b (nights a f)
  | 0 => rfl
  | b + 1 => by show (nights (a + b) f).night = _; rw [nights_add f a b]; rfl
end Fc
end Go.Proofs.Ytjlnkghjiaglmaa
