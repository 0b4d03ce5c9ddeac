/-
  The plain mathematics of a face's cycle of 1461 days: no program in sight.
  No conditions.
-/
import Derived.Test.YtjlnkghjiaglmaaFc
namespace Go.Proofs.Ytjlnkghjiaglmaa.Fc

/-- The days before a year of the mechanism's four. -/
def ys (l : Int) : Int := if l = 0 then 0 else 365 * l + 1
/-- A face's place among 1461. -/
def idx (f : Fc) : Int := ys f.L + Cal.cm f.M (f.L == 0) + f.D - 1
theorem cm13 (l : Int) : Cal.cm 13 (l == 0) = if l = 0 then 366 else 365 := by
  rw [Cal.cm_13]
  by_cases h : l = 0 <;> simp [h]
theorem idx_in {f : Fc} (h : f.ok) : ys f.L ≤ idx f ∧ idx f < ys f.L + Cal.cm 13 (f.L == 0) := by
  obtain ⟨h1, h2, h3, h4, h5, h6, _⟩ := h
  have a := Cal.cm_succ f.M (f.L == 0) h1
  have b := Cal.cm_mono (f.M + 1) 13 (f.L == 0) (by omega)
  have c := Cal.cm_mono 1 f.M (f.L == 0) h1
  have e := Cal.cm_one (f.L == 0)
  have g : f.D ≤ Cal.dl f.M (f.L == 0) := h6
  unfold idx
  omega
theorem idx_bd {f : Fc} (h : f.ok) : 0 ≤ idx f ∧ idx f < 1461 := by
  have a := idx_in h
  rw [cm13] at a
  obtain ⟨h1, h2, h3, h4, _⟩ := h
  unfold ys at a
  split at a <;> omega
theorem day_idx {f : Fc} (h : f.ok) : idx f.day = (idx f + 1) % 1461 := by
  have bd := idx_bd h
  obtain ⟨h1, h2, h3, h4, h5, h6, _⟩ := h
  have s := Cal.cm_succ f.M (f.L == 0) h1
  have lst : f.lst = Cal.dl f.M (f.L == 0) := rfl
  unfold day
  split
  · rename_i e
    unfold mon
    show idx (if f.M < 12 then (⟨1, f.M + 1, f.L, f.W, f.O⟩ : Fc) else ⟨1, 1, (f.L + 1) % 4, f.W, f.O⟩) = _
    split
    · have : idx ⟨1, f.M + 1, f.L, f.W, f.O⟩ = idx f + 1 := by
        unfold idx
        show ys f.L + Cal.cm (f.M + 1) (f.L == 0) + 1 - 1 = _
        omega
      rw [this]
      have b := Cal.cm_mono (f.M + 1) 12 (f.L == 0) (by omega)
      have b2 := Cal.cm_mono 12 13 (f.L == 0) (by omega)
      have c13 := cm13 f.L
      have b3 := (Cal.dl_bd 12 (f.L == 0)).1
      have s12 := Cal.cm_succ 12 (f.L == 0) (by omega)
      rw [show (12 : Int) + 1 = 13 from rfl] at s12
      have : idx f + 1 < 1461 := by
        unfold idx ys
        split at c13 <;> split <;> omega
      omega
    · have hm : f.M = 12 := by omega
      rw [hm] at s lst
      rw [show (12 : Int) + 1 = 13 from rfl, cm13] at s
      have c1 : Cal.cm 1 ((f.L + 1) % 4 == 0) = 0 := Cal.cm_one _
      unfold idx
      show ys ((f.L + 1) % 4) + Cal.cm 1 ((f.L + 1) % 4 == 0) + 1 - 1 = _
      rw [c1, hm]
      have K : Cal.cm 12 (f.L == 0) + f.D = if f.L = 0 then 366 else 365 := by rw [e, lst, ← s]
      generalize Cal.cm 12 (f.L == 0) = X at K ⊢
      clear s lst e c1
      unfold ys
      have hl : f.L = 0 ∨ f.L = 1 ∨ f.L = 2 ∨ f.L = 3 := by omega
      have hX : X = (if f.L = 0 then 366 else 365) - f.D := by omega
      rw [hX]
      rcases hl with l | l | l | l <;> rw [l] <;> simp <;> omega
  · rename_i e
    have : idx ⟨f.D + 1, f.M, f.L, f.W, f.O⟩ = idx f + 1 := by
      unfold idx
      show ys f.L + Cal.cm f.M (f.L == 0) + (f.D + 1) - 1 = _
      omega
    rw [this]
    have b := Cal.cm_mono (f.M + 1) 13 (f.L == 0) (by omega)
    have c13 := cm13 f.L
    have : idx f + 1 < 1461 := by
      unfold idx ys
      split at c13 <;> split <;> omega
    omega
theorem idx_inj {f g : Fc} (hf : f.ok) (hg : g.ok) (e : idx f = idx g) : f.D = g.D ∧ f.M = g.M ∧ f.L = g.L := by
  have a := idx_in hf
  have b := idx_in hg
  rw [cm13] at a b
  obtain ⟨f1, f2, f3, f4, f5, f6, _⟩ := hf
  obtain ⟨g1, g2, g3, g4, g5, g6, _⟩ := hg
  have el : f.L = g.L := by
    unfold ys at a b
    split at a <;> split at b <;> omega
  unfold idx at e
  rw [el] at e
  have s := Cal.cm_succ f.M (g.L == 0) f1
  have s' := Cal.cm_succ g.M (g.L == 0) g1
  have l1 : f.D ≤ Cal.dl f.M (g.L == 0) := by rw [← el]; exact f6
  have l2 : g.D ≤ Cal.dl g.M (g.L == 0) := g6
  have em : f.M = g.M := Cal.month_of (n := Cal.cm f.M (g.L == 0) + f.D - 1) (l := (g.L == 0)) (by omega) (by omega) (by omega) (by omega)
  rw [em] at e
  exact ⟨by omega, em, el⟩
theorem night_D (f : Fc) : f.night.D = f.day.D := rfl
theorem night_idx {f : Fc} (h : f.ok) : idx f.night = (idx f + 1) % 1461 := day_idx h
theorem nights_idx {f : Fc} (h : f.ok) : ∀ k : Nat, idx (nights k f) = (idx f + k) % 1461
  | 0 => by have := idx_bd h; show idx f = _; omega
  | k + 1 => by
    have t := night_idx (nights_ok h k)
    show idx (nights k f).night = _
    rw [t, nights_idx h k]
    omega
theorem day_W (f : Fc) : f.day.W = f.W := by unfold day; split <;> simp [mon_W]
theorem day_O (f : Fc) : f.day.O = f.O := by unfold day; split <;> simp [mon_O]
theorem nights_W (f : Fc) (h : 0 ≤ f.W ∧ f.W ≤ 6) : ∀ k : Nat, (nights k f).W = (f.W + k) % 7
  | 0 => by show f.W = _; omega
  | k + 1 => by
    show ((nights k f).day.W + 1) % 7 = _
    rw [day_W, nights_W f h k]; omega
theorem nights_O (f : Fc) (h : 0 ≤ f.O ∧ f.O ≤ 58) : ∀ k : Nat, (nights k f).O = (f.O + k) % 59
  | 0 => by show f.O = _; omega
  | k + 1 => by
    show ((nights k f).day.O + 1) % 59 = _
    rw [day_O, nights_O f h k]; omega
theorem cycle1461 {f : Fc} (h : f.ok) (j : Nat) : (nights (1461 * j) f).D = f.D ∧ (nights (1461 * j) f).M = f.M ∧ (nights (1461 * j) f).L = f.L := by
  have b := idx_bd h
  refine idx_inj (nights_ok h _) h ?_
  rw [nights_idx h]
  omega
end Go.Proofs.Ytjlnkghjiaglmaa.Fc
