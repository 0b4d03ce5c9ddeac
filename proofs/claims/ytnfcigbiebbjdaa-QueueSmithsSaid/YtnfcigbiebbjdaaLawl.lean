/-
  The plain mathematics of jobs and of orders of them: Lawler's order is late the least. No program in sight.
  No conditions.
-/
namespace Go.Proofs.Ytnfcigbiebbjdaa

/-- A job. -/
structure Jb where
  work : Int
  rel : Int
  due : Int
  wt : Int
  after : List Int
def Jb.none : Jb := ⟨0, 0, 0, 0, []⟩
/-- What it costs that is done at a time. -/
def fineJ (j : Jb) (t : Int) : Int := j.wt * max 0 (t - j.due)
def jat (l : List Jb) (i : Int) : Jb := l.getD i.toNat Jb.none

section
variable (l : List Jb)
def works : List Int → Int
  | [] => 0
  | i :: r => (jat l i).work + works r
def lateF (t : Int) : List Int → Int
  | [] => 0
  | i :: r => max (fineJ (jat l i) (t + (jat l i).work)) (lateF (t + (jat l i).work) r)
/-- No job takes a time below 0, or costs less for being later. -/
def Fair : Prop := ∀ i, 0 ≤ (jat l i).work ∧ 0 ≤ (jat l i).wt

theorem works_append (a b : List Int) : works l (a ++ b) = works l a + works l b := by
  induction a with
  | nil => simp [works]
  | cons x r ih => simp only [List.cons_append, works, ih]; omega
theorem works_perm {a b : List Int} (h : a.Perm b) : works l a = works l b := by
  induction h with
  | nil => rfl
  | cons x _ ih => simp only [works, ih]
  | swap x y r => simp only [works]; omega
  | trans _ _ h1 h2 => exact h1.trans h2
theorem works_nonneg (h : Fair l) (a : List Int) : 0 ≤ works l a := by
  induction a with
  | nil => exact Int.le_refl _
  | cons x r ih => have := (h x).1; simp only [works]; omega
theorem lateF_nonneg (t : Int) (a : List Int) : 0 ≤ lateF l t a := by
  induction a generalizing t with
  | nil => exact Int.le_refl _
  | cons x r ih => have := ih (t + (jat l x).work); simp only [lateF]; omega
theorem lateF_append (t : Int) (a b : List Int) : lateF l t (a ++ b) = max (lateF l t a) (lateF l (t + works l a) b) := by
  induction a generalizing t with
  | nil => simp only [List.nil_append, works, lateF, Int.add_zero]; have := lateF_nonneg l t b; omega
  | cons x r ih =>
    simp only [List.cons_append, lateF, works, ih]
    rw [show t + ((jat l x).work + works l r) = t + (jat l x).work + works l r by omega]
    omega
theorem fine_mono {j : Jb} (h : 0 ≤ j.wt) {s t : Int} (hst : s ≤ t) : fineJ j s ≤ fineJ j t := Int.mul_le_mul_of_nonneg_left (by omega) h
theorem lateF_mono (h : Fair l) {s t : Int} (hst : s ≤ t) (a : List Int) : lateF l s a ≤ lateF l t a := by
  induction a generalizing s t with
  | nil => exact Int.le_refl _
  | cons x r ih =>
    have h1 := fine_mono (h x).2 (s := s + (jat l x).work) (t := t + (jat l x).work) (by omega)
    have h2 := ih (s := s + (jat l x).work) (t := t + (jat l x).work) (by omega)
    simp only [lateF]
    omega
theorem lateF_erase (h : Fair l) (t : Int) (b : Int) (a : List Int) : lateF l t (a.erase b) ≤ lateF l t a := by
  induction a generalizing t with
  | nil => exact Int.le_refl _
  | cons x r ih =>
    by_cases e : x = b
    · subst e
      rw [List.erase_cons_head]
      have := lateF_mono l h (s := t) (t := t + (jat l x).work) (by have := (h x).1; omega) r
      simp only [lateF]
      omega
    · rw [List.erase_cons_tail (by simpa using e)]
      have := ih (t + (jat l x).work)
      simp only [lateF]
      omega
/-- The order keeps what each job comes after. -/
def Kept (o : List Int) : Prop := o.Pairwise fun x y => y ∉ (jat l x).after
/-- Each job of the order is the best of those that may be the last of the ones up to it. -/
def Lawl (o : List Int) : Prop := ∀ p b q, o = p ++ b :: q → ∀ z ∈ p ++ [b], (∀ i ∈ p ++ [b], z ∉ (jat l i).after) → fineJ (jat l b) (works l (p ++ [b])) ≤ fineJ (jat l z) (works l (p ++ [b]))
theorem Lawl.init {o : List Int} {b : Int} (h : Lawl l (o ++ [b])) : Lawl l o := fun p c q e => h p c (q ++ [b]) (by rw [e]; simp)
/-- **Lawler's order is late the least.** -/
theorem lawl_least (hf : Fair l) : ∀ (n : Nat) (P : List Int), P.length = n → Lawl l P → ∀ o : List Int, o.Perm P → Kept l o → (∀ i ∈ P, i ∉ (jat l i).after) → lateF l 0 P ≤ lateF l 0 o
  | 0, P, hn, _, o, _, _, _ => by
    obtain rfl : P = [] := List.eq_nil_of_length_eq_zero hn
    exact lateF_nonneg l 0 o
  | n + 1, P, hn, hL, o, hp, hk, hs => by
    rcases List.eq_nil_or_concat P with rfl | ⟨Q, b, rfl⟩
    · simp at hn
    rw [List.concat_eq_append] at *
    rcases List.eq_nil_or_concat o with rfl | ⟨R, z, rfl⟩
    · have := hp.length_eq; simp at this
    rw [List.concat_eq_append] at *
    have hQ : ((R ++ [z]).erase b).Perm Q := by
      have h1 := hp.erase b
      have h2 : ((Q ++ [b]).erase b).Perm Q := by
        have h3 : (Q ++ [b]).Perm (b :: Q) := List.perm_append_comm
        have h4 := h3.erase b
        rw [List.erase_cons_head] at h4
        exact h4
      exact h1.trans h2
    have ih := lawl_least hf n Q (by simpa using hn) (Lawl.init l hL) _ hQ (hk.sublist (List.erase_sublist)) fun i hi => hs i (by simp [hi])
    have hw : works l (R ++ [z]) = works l (Q ++ [b]) := works_perm l hp
    have hz : z ∈ Q ++ [b] := hp.mem_iff.1 (by simp)
    have hno : ∀ i ∈ Q ++ [b], z ∉ (jat l i).after := fun i hi => by
      have hi' := hp.mem_iff.2 hi
      rcases List.mem_append.1 hi' with h | h
      · exact (List.pairwise_append.1 hk).2.2 i h z (by simp)
      · obtain rfl : i = z := by simpa using h
        exact hs _ hz
    have hb := hL Q b [] (by simp) z hz hno
    have h1 := lateF_erase l hf 0 b (R ++ [z])
    have e1 := lateF_append l 0 Q [b]
    have e2 := lateF_append l 0 R [z]
    have w1 := works_append l Q [b]
    have w2 := works_append l R [z]
    simp only [lateF, works, Int.zero_add, Int.add_zero] at e1 e2 w1 w2
    rw [← w1] at e1
    rw [← w2, hw] at e2
    have n1 := lateF_nonneg l 0 Q
    have n2 := lateF_nonneg l 0 R
    omega
end
end Go.Proofs.Ytnfcigbiebbjdaa
