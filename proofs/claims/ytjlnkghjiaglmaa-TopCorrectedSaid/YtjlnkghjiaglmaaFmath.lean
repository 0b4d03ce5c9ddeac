/-
  The plain mathematics of following pushes: no program in sight.
  No conditions.
-/
import Derived.Test.YtjlnkghjiaglmaaCorr3
namespace Go.Proofs.Ytjlnkghjiaglmaa
namespace Fc
/-- Some pushes of one corrector. -/
def corrs (p : Int) : Nat → Fc → Fc
  | 0, f => f
  | k + 1, f => (corrs p k f).corr p
theorem corrs_ok {f : Fc} (p : Int) (h : f.ok) : ∀ k, (corrs p k f).ok
  | 0 => h
  | k + 1 => corr_ok p (corrs_ok p h k)
theorem corrs_2 (f : Fc) : ∀ k, corrs 2 k f = pushMs k f
  | 0 => rfl
  | k + 1 => by show (corrs 2 k f).corr 2 = _; rw [corrs_2 f k]; rfl
theorem corrs_1 (f : Fc) : ∀ k, corrs 1 k f = pushDs k f
  | 0 => rfl
  | k + 1 => by show (corrs 1 k f).corr 1 = _; rw [corrs_1 f k]; rfl
theorem corrs_3 (f : Fc) : ∀ k, corrs 3 k f = pushWs k f
  | 0 => rfl
  | k + 1 => by show (corrs 3 k f).corr 3 = _; rw [corrs_3 f k]; rfl
theorem corrs_4 (f : Fc) : ∀ k, corrs 4 k f = pushOs k f
  | 0 => rfl
  | k + 1 => by show (corrs 4 k f).corr 4 = _; rw [corrs_4 f k]; rfl
/-- How often, which corrector: months, days, weekdays, moons. -/
def often (f t : Fc) : List Int := [f.far t, t.D - (f.reached t).D, f.farW t, f.farO t]
def which : List Int := [2, 1, 3, 4]
/-- The face behind so many correctors. -/
def stage (f t : Fc) : Nat → Fc
  | 0 => f
  | i + 1 => corrs (which.getD i 0) ((often f t).getD i 0).toNat (stage f t i)
theorem stage_ok {f : Fc} (t : Fc) (h : f.ok) : ∀ i, (stage f t i).ok
  | 0 => h
  | i + 1 => corrs_ok _ (stage_ok t h i) _
theorem stage_4 {f t : Fc} (h : f.ok) (ht : t.ok) (hD : (f.reached t).D ≤ t.D) : stage f t 4 = t := by
  show corrs 4 (f.farO t).toNat (corrs 3 (f.farW t).toNat (corrs 1 (t.D - (f.reached t).D).toNat (corrs 2 (f.far t).toNat f))) = t
  rw [corrs_4, corrs_3, corrs_1, corrs_2]
  exact follows h ht hD
theorem which_bd (i : Nat) (h : i < 4) : 1 ≤ which.getD i 0 ∧ which.getD i 0 ≤ 4 := by
  match i, h with
  | 0, _ => decide
  | 1, _ => decide
  | 2, _ => decide
  | 3, _ => decide
theorem often_bd {f t : Fc} (h : f.ok) (ht : t.ok) (hD : (f.reached t).D ≤ t.D) (i : Nat) (hi : i < 4) : 0 ≤ (often f t).getD i 0 ∧ (often f t).getD i 0 ≤ 100 := by
  have b0 := far_bd f t
  have b2 := farW_bd f t
  have b3 := farO_bd f t
  have b4 := (reached_ok h t).2.2.2.2.1
  have b5 := (lst_bd t).2
  have b6 := ht.2.2.2.2.2.1
  match i, hi with
  | 0, _ => show 0 ≤ f.far t ∧ f.far t ≤ 100; omega
  | 1, _ => show 0 ≤ t.D - (f.reached t).D ∧ t.D - (f.reached t).D ≤ 100; omega
  | 2, _ => show 0 ≤ f.farW t ∧ f.farW t ≤ 100; omega
  | 3, _ => show 0 ≤ f.farO t ∧ f.farO t ≤ 100; omega
/-- From a first of a month there is a way. -/
theorem way_of_first {f t : Fc} (ht : t.ok) (h1 : f.D = 1) : (f.reached t).D ≤ t.D := by
  have := pushMs_D1 h1 (f.far t).toNat
  show (pushMs (f.far t).toNat f).D ≤ t.D
  have := ht.2.2.2.2.1
  omega
end Fc
end Go.Proofs.Ytjlnkghjiaglmaa
