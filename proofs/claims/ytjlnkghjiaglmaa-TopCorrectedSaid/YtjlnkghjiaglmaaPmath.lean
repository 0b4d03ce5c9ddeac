/-
  The plain mathematics of pushing a face to another one: no program in sight.
  No conditions.
-/
import Derived.Test.YtjlnkghjiaglmaaFc
namespace Go.Proofs.Ytjlnkghjiaglmaa
namespace Fc
/-- The place of a face's month among the 48 of the mechanism. -/
def pos (f : Fc) : Int := 12 * f.L + f.M
/-- How many pushes of the month lead from one face's month to the other's. -/
def far (f t : Fc) : Int := (t.pos - f.pos) % 48
theorem far_bd (f t : Fc) : 0 ≤ f.far t ∧ f.far t ≤ 47 := by unfold far; omega
theorem pushM_M (f : Fc) : f.pushM.M = f.mon.M := rfl
theorem pushM_L (f : Fc) : f.pushM.L = f.mon.L := rfl
theorem far_zero {f t : Fc} (hf : f.okM) (ht : t.okM) : f.far t = 0 ↔ f.M = t.M ∧ f.L = t.L := by
  obtain ⟨h1, h2, h3, h4⟩ := hf
  obtain ⟨g1, g2, g3, g4⟩ := ht
  unfold far pos
  constructor
  · intro h; omega
  · rintro ⟨e1, e2⟩; rw [e1, e2]; omega
theorem far_pushM {f t : Fc} (hf : f.okM) (h : 0 < f.far t) : f.pushM.far t = f.far t - 1 := by
  obtain ⟨h1, h2, h3, h4⟩ := hf
  have hp : f.pushM.pos = f.pos + 1 ∨ f.pushM.pos = f.pos - 47 := by
    unfold pos
    rw [pushM_M, pushM_L]
    unfold mon
    split
    · left; show 12 * f.L + (f.M + 1) = _; omega
    · by_cases e : f.L = 3
      · right; show 12 * ((f.L + 1) % 4) + 1 = _; omega
      · left; show 12 * ((f.L + 1) % 4) + 1 = _; omega
  unfold far at *
  omega
/-- Some pushes of the month. -/
def pushMs : Nat → Fc → Fc
  | 0, f => f
  | k + 1, f => (pushMs k f).pushM
theorem pushMs_ok {f : Fc} (h : f.ok) : ∀ k, (pushMs k f).ok
  | 0 => h
  | k + 1 => pushM_ok (pushMs_ok h k)
theorem pushMs_far {f t : Fc} (h : f.ok) : ∀ k : Nat, (k : Int) ≤ f.far t → (pushMs k f).far t = f.far t - k
  | 0, _ => by show f.far t = _; omega
  | k + 1, hk => by
    have ih := pushMs_far (t := t) h k (by omega)
    show (pushMs k f).pushM.far t = _
    rw [far_pushM (pushMs_ok h k).okM (by omega), ih]
    omega
theorem pushMs_W (f : Fc) : ∀ k, (pushMs k f).W = f.W
  | 0 => rfl
  | k + 1 => (mon_W _).trans (pushMs_W f k)
theorem pushMs_O (f : Fc) : ∀ k, (pushMs k f).O = f.O
  | 0 => rfl
  | k + 1 => (mon_O _).trans (pushMs_O f k)
theorem pushM_D1 {f : Fc} (h : f.D = 1) : f.pushM.D = 1 := by
  have b := lst_bd f.mon
  show min f.D f.mon.lst = 1
  omega
theorem pushMs_D1 {f : Fc} (h : f.D = 1) : ∀ k, (pushMs k f).D = 1
  | 0 => h
  | k + 1 => pushM_D1 (pushMs_D1 h k)
/-- The face of one's day, and the other's. -/
def reached (f t : Fc) : Fc := pushMs (f.far t).toNat f
theorem reached_ok {f : Fc} (h : f.ok) (t : Fc) : (f.reached t).ok := pushMs_ok h _
theorem reached_ML {f t : Fc} (h : f.ok) (ht : t.ok) : (f.reached t).M = t.M ∧ (f.reached t).L = t.L := by
  have b := far_bd f t
  have e := pushMs_far (t := t) h (f.far t).toNat (by omega)
  exact (far_zero (reached_ok h t).okM ht.okM).1 (by show (pushMs (f.far t).toNat f).far t = 0; omega)
theorem reached_not {f t : Fc} (h : f.ok) (ht : t.ok) {k : Nat} (hk : (k : Int) < f.far t) : ¬ ((pushMs k f).M = t.M ∧ (pushMs k f).L = t.L) := by
  intro hc
  have e := pushMs_far (t := t) h k (by omega)
  have := (far_zero (pushMs_ok h k).okM ht.okM).2 hc
  omega
theorem reached_at {f t : Fc} (h : f.ok) (ht : t.ok) {k : Nat} (hk : (k : Int) ≤ f.far t) (hc : (pushMs k f).M = t.M ∧ (pushMs k f).L = t.L) : (k : Int) = f.far t := by
  rcases Int.lt_or_le (k : Int) (f.far t) with hl | hl
  · exact absurd hc (reached_not h ht hl)
  · omega
theorem reached_W (f t : Fc) : (f.reached t).W = f.W := pushMs_W f _
theorem reached_O (f t : Fc) : (f.reached t).O = f.O := pushMs_O f _
/-- A push of the day within the month. -/
theorem day_in {f : Fc} (h : f.D < f.lst) : f.day = ⟨f.D + 1, f.M, f.L, f.W, f.O⟩ := by
  unfold day
  rw [if_neg (by omega)]
theorem day_at {f : Fc} {D : Int} (h : D < f.lst) : day ⟨D, f.M, f.L, f.W, f.O⟩ = ⟨D + 1, f.M, f.L, f.W, f.O⟩ := day_in (f := ⟨D, f.M, f.L, f.W, f.O⟩) h
/-- How far the weekday and the moon are. -/
def farW (f t : Fc) : Int := (t.W - f.W + 7) % 7
def farO (f t : Fc) : Int := (t.O - f.O + 59) % 59
theorem ext {f g : Fc} (h1 : f.D = g.D) (h2 : f.M = g.M) (h3 : f.L = g.L) (h4 : f.W = g.W) (h5 : f.O = g.O) : f = g := by
  cases f; cases g; simp_all
/-- All the pushes lead there. -/
def pushDs : Nat → Fc → Fc
  | 0, f => f
  | k + 1, f => (pushDs k f).day
def pushWs : Nat → Fc → Fc
  | 0, f => f
  | k + 1, f => (pushWs k f).wday
def pushOs : Nat → Fc → Fc
  | 0, f => f
  | k + 1, f => (pushOs k f).moon
theorem pushDs_ok {f : Fc} (h : f.ok) : ∀ k, (pushDs k f).ok
  | 0 => h
  | k + 1 => day_ok (pushDs_ok h k)
theorem pushWs_ok {f : Fc} (h : f.ok) : ∀ k, (pushWs k f).ok
  | 0 => h
  | k + 1 => wday_ok (pushWs_ok h k)
theorem pushOs_ok {f : Fc} (h : f.ok) : ∀ k, (pushOs k f).ok
  | 0 => h
  | k + 1 => moon_ok (pushOs_ok h k)
theorem pushDs_in (f : Fc) : ∀ k : Nat, f.D + k ≤ f.lst → pushDs k f = ⟨f.D + k, f.M, f.L, f.W, f.O⟩
  | 0, _ => by cases f; simp [pushDs]
  | k + 1, hk => by
    show (pushDs k f).day = _
    rw [pushDs_in f k (by omega), day_at (by omega)]
    congr 1
    omega
theorem pushWs_eq (f : Fc) (h : 0 ≤ f.W ∧ f.W ≤ 6) : ∀ k : Nat, pushWs k f = ⟨f.D, f.M, f.L, (f.W + k) % 7, f.O⟩
  | 0 => by obtain ⟨D, M, L, W, O⟩ := f; simp only at h; show Fc.mk _ _ _ _ _ = Fc.mk _ _ _ _ _; congr 1; show W = (W + ((0 : Nat) : Int)) % 7; omega
  | k + 1 => by
    show (pushWs k f).wday = _
    rw [pushWs_eq f h k]
    show Fc.mk _ _ _ _ _ = Fc.mk _ _ _ _ _
    congr 1
    show ((f.W + (k : Int)) % 7 + 1) % 7 = (f.W + ((k + 1 : Nat) : Int)) % 7
    omega
theorem pushOs_eq (f : Fc) (h : 0 ≤ f.O ∧ f.O ≤ 58) : ∀ k : Nat, pushOs k f = ⟨f.D, f.M, f.L, f.W, (f.O + k) % 59⟩
  | 0 => by obtain ⟨D, M, L, W, O⟩ := f; simp only at h; show Fc.mk _ _ _ _ _ = Fc.mk _ _ _ _ _; congr 1; show O = (O + ((0 : Nat) : Int)) % 59; omega
  | k + 1 => by
    show (pushOs k f).moon = _
    rw [pushOs_eq f h k]
    show Fc.mk _ _ _ _ _ = Fc.mk _ _ _ _ _
    congr 1
    show ((f.O + (k : Int)) % 59 + 1) % 59 = (f.O + ((k + 1 : Nat) : Int)) % 59
    omega
theorem follows {f t : Fc} (h : f.ok) (ht : t.ok) (hD : (f.reached t).D ≤ t.D) :
    pushOs (f.farO t).toNat (pushWs (f.farW t).toNat (pushDs (t.D - (f.reached t).D).toNat (f.reached t))) = t := by
  obtain ⟨e1, e2⟩ := reached_ML h ht
  have hr := reached_ok h t
  have hW := reached_W f t
  have hO := reached_O f t
  generalize f.reached t = g at *
  have hl : g.lst = t.lst := by unfold lst; rw [e1, e2]
  obtain ⟨_, _, _, _, t5, t6, t7, t8, t9, t10⟩ := ht
  obtain ⟨_, _, _, _, _, _, g7, g8, g9, g10⟩ := hr
  have e3 := pushWs_eq ⟨g.D + ((t.D - g.D).toNat : Int), g.M, g.L, g.W, g.O⟩ ⟨g7, g8⟩ (f.farW t).toNat
  have e4 := pushOs_eq ⟨g.D + ((t.D - g.D).toNat : Int), g.M, g.L, (g.W + ((f.farW t).toNat : Int)) % 7, g.O⟩ ⟨g9, g10⟩ (f.farO t).toNat
  rw [pushDs_in g _ (by omega), e3, e4]
  unfold farW farO
  apply ext
  · show g.D + ((t.D - g.D).toNat : Int) = t.D; omega
  · exact e1
  · exact e2
  · show (g.W + (((t.W - f.W + 7) % 7).toNat : Int)) % 7 = t.W; omega
  · show (g.O + (((t.O - f.O + 59) % 59).toNat : Int)) % 59 = t.O; omega
end Fc
end Go.Proofs.Ytjlnkghjiaglmaa
