/-
  The plain mathematics of weighted sums: an order by rising work over weight has the least. No program in sight.
  No conditions.
-/
import Derived.Test.YtnfcigbiebbjdaaJobs
namespace Go.Proofs.Ytnfcigbiebbjdaa
section
variable (l : List Jb)
def wsum (t : Int) : List Int → Int
  | [] => 0
  | i :: r => (jat l i).wt * (t + (jat l i).work) + wsum (t + (jat l i).work) r
/-- As a loop computes it. -/
def wsumA (t m : Int) : List Int → Int
  | [] => m
  | i :: r => wsumA (t + (jat l i).work) (m + (t + (jat l i).work) * (jat l i).wt) r
theorem wsumA_eq : ∀ (o : List Int) (t m : Int), wsumA l t m o = m + wsum l t o
  | [], t, m => by simp [wsumA, wsum]
  | i :: r, t, m => by
    simp only [wsumA, wsum]
    rw [wsumA_eq r, Int.mul_comm]
    omega
/-- Is a job to be done ahead of another one? -/
def smallB (a b : Jb) : Bool := if a.wt = 0 ∨ b.wt = 0 then decide (0 < a.wt ∧ b.wt = 0) else decide (a.work * b.wt < b.work * a.wt)
theorem small_prod (hf : Fair l) {b s : Int} (h : smallB (jat l s) (jat l b) = false) : (jat l b).work * (jat l s).wt ≤ (jat l s).work * (jat l b).wt := by
  have h1 := hf b
  have h2 := hf s
  unfold smallB at h
  split at h
  · rename_i hz
    rw [decide_eq_false_iff_not] at h
    rcases Int.lt_or_le 0 (jat l s).wt with hs | hs
    · have hb : (jat l b).wt ≠ 0 := fun e => h ⟨hs, e⟩
      omega
    · have : (jat l s).wt = 0 := by omega
      rw [this, Int.mul_zero]
      exact Int.mul_nonneg h2.1 h1.2
  · rw [decide_eq_false_iff_not] at h
    omega
theorem wsum_front : ∀ (X Y : List Int) (t b : Int), (∀ s ∈ X, (jat l b).work * (jat l s).wt ≤ (jat l s).work * (jat l b).wt) → wsum l t (b :: (X ++ Y)) ≤ wsum l t (X ++ b :: Y)
  | [], _, _, _, _ => Int.le_refl _
  | s :: X, Y, t, b, h => by
    have ih := wsum_front X Y (t + (jat l s).work) b fun x hx => h x (by simp [hx])
    have hs := h s (by simp)
    simp only [List.cons_append, wsum] at ih ⊢
    rw [show t + (jat l b).work + (jat l s).work = t + (jat l s).work + (jat l b).work by omega]
    generalize wsum l (t + (jat l s).work + (jat l b).work) (X ++ Y) = c at *
    generalize wsum l (t + (jat l s).work) (X ++ b :: Y) = d at *
    have e1 : (jat l b).wt * (t + (jat l b).work) = (jat l b).wt * t + (jat l b).wt * (jat l b).work := Int.mul_add _ _ _
    have e2 : (jat l s).wt * (t + (jat l s).work + (jat l b).work) = (jat l s).wt * (t + (jat l s).work) + (jat l s).wt * (jat l b).work := Int.mul_add _ _ _
    have e3 : (jat l b).wt * (t + (jat l s).work + (jat l b).work) = (jat l b).wt * t + (jat l b).wt * (jat l s).work + (jat l b).wt * (jat l b).work := by rw [Int.mul_add, Int.mul_add]
    rw [Int.mul_comm (jat l b).work, Int.mul_comm (jat l s).work] at hs
    omega
/-- **An order by rising work over weight has the least weighted sum.** -/
theorem smith_least (hf : Fair l) : ∀ (o m : List Int) (t : Int), o.Pairwise (fun x y => smallB (jat l y) (jat l x) = false) → m.Perm o → wsum l t o ≤ wsum l t m
  | [], m, t, _, hp => by
    have := hp.length_eq
    obtain rfl : m = [] := List.eq_nil_of_length_eq_zero (by simpa using this)
    exact Int.le_refl _
  | b :: o, m, t, h, hp => by
    have hb : b ∈ m := hp.mem_iff.2 (by simp)
    obtain ⟨X, Y, rfl⟩ := List.append_of_mem hb
    have hXY : (X ++ Y).Perm o := by
      have : (X ++ b :: Y).Perm (b :: (X ++ Y)) := List.perm_middle
      exact List.Perm.cons_inv (this.symm.trans hp)
    have h1 := wsum_front l X Y t b fun s hs => small_prod l hf ((List.pairwise_cons.1 h).1 s (hXY.mem_iff.1 (by simp [hs])))
    have h2 := smith_least hf o (X ++ Y) (t + (jat l b).work) (List.pairwise_cons.1 h).2 hXY
    simp only [wsum] at h1 ⊢
    omega
end
end Go.Proofs.Ytnfcigbiebbjdaa
