/-
  The plain mathematics of comparisons: a comparison that is a strict weak order and, where it tells nothing, the numbers make a total order; Smith's and Johnson's comparisons. No program in sight.
  No conditions.
-/
import Derived.Test.YtnfcigbiebbjdaaSortm
import Derived.Test.YtnfcigbiebbjdaaSmithm
import Derived.Test.YtnfcigbiebbjdaaJohnm
namespace Go.Proofs.Ytnfcigbiebbjdaa

structure Swo (cf : Int → Int → Int) : Prop where
  asymm : ∀ x y, cf x y < 0 → ¬ cf y x < 0
  neg : ∀ x y z, ¬ cf x y < 0 → ¬ cf y z < 0 → ¬ cf x z < 0
/-- By the comparison, and where it tells nothing by the numbers. -/
def leOf (cf : Int → Int → Int) (x y : Int) : Prop := ¬ cf y x < 0 ∧ (cf x y < 0 ∨ x ≤ y)
section
variable {cf : Int → Int → Int} (S : Swo cf)
include S
theorem Swo.tot : TotLe (leOf cf) where
  total x y := by
    unfold leOf
    have h1 := S.asymm x y
    have h2 := S.asymm y x
    by_cases a : cf x y < 0
    · exact .inl ⟨h1 a, .inl a⟩
    · by_cases b : cf y x < 0
      · exact .inr ⟨a, .inl b⟩
      · rcases Int.le_total x y with h | h
        · exact .inl ⟨b, .inr h⟩
        · exact .inr ⟨a, .inr h⟩
  trans x y z := by
    rintro ⟨a1, a2⟩ ⟨b1, b2⟩
    refine ⟨S.neg z y x b1 a1, ?_⟩
    by_cases h : cf x z < 0
    · exact .inl h
    · right
      -- then none of the two is told apart from y
      have h1 : ¬ cf x y < 0 := S.neg x z y h b1
      have h2 : ¬ cf y z < 0 := S.neg y x z a1 h
      rcases a2 with a2 | a2
      · exact absurd a2 h1
      · rcases b2 with b2 | b2
        · exact absurd b2 h2
        · omega
end
/-- What comes earlier in a rising list, and what comes later. -/
theorem Swo.agree {cf : Int → Int → Int} {x y : Int} (h : x ≤ y) : cf y x < 0 ↔ ¬ leOf cf x y := by
  unfold leOf
  constructor
  · exact fun c k => k.1 c
  · intro k
    by_cases c : cf y x < 0
    · exact c
    · exact absurd ⟨c, .inr h⟩ k
def cmpI (x y : Int) : Int := if x < y then -1 else if y < x then 1 else 0
theorem cmpI_neg {x y : Int} : cmpI x y < 0 ↔ x < y := by
  unfold cmpI
  by_cases h : x < y
  · rw [if_pos h]; omega
  · rw [if_neg h]; split <;> omega
section
variable (l : List Jb)
def smithC (x y : Int) : Int :=
  if (jat l x).wt = 0 ∨ (jat l y).wt = 0 then cmpI (min 1 (jat l y).wt) (min 1 (jat l x).wt) else cmpI ((jat l x).work * (jat l y).wt) ((jat l y).work * (jat l x).wt)
theorem smithC_neg (hf : Fair l) (x y : Int) : smithC l x y < 0 ↔ smallB (jat l x) (jat l y) = true := by
  have h1 := (hf x).2
  have h2 := (hf y).2
  unfold smithC smallB
  split
  · rw [cmpI_neg, decide_eq_true_iff]; omega
  · rw [cmpI_neg, decide_eq_true_iff]
theorem smith_swo (hf : Fair l) : Swo (smithC l) where
  asymm x y := by
    rw [smithC_neg l hf, smithC_neg l hf]
    unfold smallB
    split <;> split <;> simp only [decide_eq_true_iff] <;> omega
  neg x y z := by
    rw [smithC_neg l hf, smithC_neg l hf, smithC_neg l hf, Bool.not_eq_true, Bool.not_eq_true, Bool.not_eq_true]
    intro h1 h2
    have fx := hf x
    have fy := hf y
    have fz := hf z
    unfold smallB at *
    by_cases cx : (jat l x).wt = 0
    · rw [if_pos (.inl cx), decide_eq_false_iff_not]; omega
    by_cases cz : (jat l z).wt = 0
    · rw [if_pos (.inr cz), decide_eq_false_iff_not]
      rw [if_pos (.inr cz), decide_eq_false_iff_not] at h2
      by_cases cy : (jat l y).wt = 0
      · rw [if_pos (.inr cy), decide_eq_false_iff_not] at h1; omega
      · omega
    by_cases cy : (jat l y).wt = 0
    · rw [if_pos (.inr cy), decide_eq_false_iff_not] at h1; omega
    rw [if_neg (by omega), decide_eq_false_iff_not] at *
    generalize (jat l x).work = px at *
    generalize (jat l y).work = py at *
    generalize (jat l z).work = pz at *
    generalize (jat l x).wt = wx at *
    generalize (jat l y).wt = wy at *
    generalize (jat l z).wt = wz at *
    intro h3
    have e1 : py * wx * wz ≤ px * wy * wz := Int.mul_le_mul_of_nonneg_right (by omega) fz.2
    have e2 : pz * wy * wx ≤ py * wz * wx := Int.mul_le_mul_of_nonneg_right (by omega) fx.2
    have e3 : wy * (px * wz) < wy * (pz * wx) := Int.mul_lt_mul_of_pos_left h3 (by omega)
    have r1 : py * wx * wz = py * wz * wx := by rw [Int.mul_assoc, Int.mul_comm wx wz, ← Int.mul_assoc]
    have r2 : px * wy * wz = wy * (px * wz) := by rw [Int.mul_comm px wy, Int.mul_assoc]
    have r3 : pz * wy * wx = wy * (pz * wx) := by rw [Int.mul_comm pz wy, Int.mul_assoc]
    omega
end
section
variable (a b : List Int)
def johnC (x y : Int) : Int :=
  if iat a x < iat b x ∧ ¬ iat a y < iat b y then -1 else if iat a y < iat b y ∧ ¬ iat a x < iat b x then 1
  else if iat a x < iat b x then cmpI (iat a x) (iat a y) else cmpI (iat b y) (iat b x)
theorem johnC_neg (x y : Int) : johnC a b x y < 0 ↔ (iat a x < iat b x ∧ ¬ iat a y < iat b y) ∨ (iat a x < iat b x ∧ iat a y < iat b y ∧ iat a x < iat a y) ∨ (¬ iat a x < iat b x ∧ ¬ iat a y < iat b y ∧ iat b y < iat b x) := by
  unfold johnC
  split
  · simp; omega
  split
  · simp; omega
  split <;> rw [cmpI_neg] <;> omega
theorem john_swo : Swo (johnC a b) where
  asymm x y := by rw [johnC_neg, johnC_neg]; omega
  neg x y z := by rw [johnC_neg, johnC_neg, johnC_neg]; omega
theorem john_le {x y : Int} (h : leOf (johnC a b) x y) : Before a b x y := by
  have := h.1
  rw [johnC_neg] at this
  unfold Before
  omega
end
end Go.Proofs.Ytnfcigbiebbjdaa
