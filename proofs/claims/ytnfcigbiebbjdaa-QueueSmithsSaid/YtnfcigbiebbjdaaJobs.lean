/-
  The plain mathematics of jobs: which are valid, how late an order is as a loop computes it, how often a job is named. No program in sight.
  No conditions.
-/
import Derived.Test.YtnfcigbiebbjdaaOrds
namespace Go.Proofs.Ytnfcigbiebbjdaa

/-- Do numbers rise, from one on, below a limit? -/
def riseB (lim : Int) : Int → List Int → Bool
  | _, [] => true
  | last, n :: r => decide (last < n) && (decide (n < lim) && riseB lim n r)
def jobB (i : Nat) (j : Jb) : Bool :=
  decide (1 ≤ j.work ∧ j.work ≤ 10000 ∧ 0 ≤ j.rel ∧ j.rel ≤ 640000 ∧ 0 ≤ j.due ∧ j.due ≤ 640000 ∧ 0 ≤ j.wt ∧ j.wt ≤ 1000) && riseB i (-1) j.after
/-- Are the jobs valid, from number i on? -/
def allB : Nat → List Jb → Bool
  | _, [] => true
  | i, j :: r => jobB i j && allB (i + 1) r
def validB (l : List Jb) : Bool := decide (l.length ≤ 64) && allB 0 l

theorem riseB_lt {lim : Int} : ∀ {last : Int} {a : List Int}, riseB lim last a = true → ∀ x ∈ a, last < x ∧ x < lim
  | _, [], _, x, hx => by simp at hx
  | last, n :: r, h, x, hx => by
    simp only [riseB, Bool.and_eq_true, decide_eq_true_eq] at h
    rcases List.mem_cons.1 hx with rfl | hx
    · exact ⟨h.1, h.2.1⟩
    · have := riseB_lt h.2.2 x hx
      exact ⟨by omega, this.2⟩
theorem riseB_nodup {lim : Int} : ∀ {last : Int} {a : List Int}, riseB lim last a = true → a.Nodup
  | _, [], _ => List.nodup_nil
  | last, n :: r, h => by
    simp only [riseB, Bool.and_eq_true, decide_eq_true_eq] at h
    refine List.nodup_cons.2 ⟨fun hm => ?_, riseB_nodup h.2.2⟩
    have := riseB_lt h.2.2 n hm
    omega
theorem allB_at : ∀ {i : Nat} {l : List Jb}, allB i l = true → ∀ (k : Nat) (j : Jb), l[k]? = some j → jobB (i + k) j = true
  | _, [], _, k, j, hk => by simp at hk
  | i, x :: r, h, k, j, hk => by
    simp only [allB, Bool.and_eq_true] at h
    cases k with
    | zero => simp at hk; subst hk; exact h.1
    | succ k =>
      have := allB_at h.2 k j (by simpa using hk)
      rwa [show i + 1 + k = i + (k + 1) by omega] at this
theorem jat_get {l : List Jb} {k : Nat} {j : Jb} (h : l[k]? = some j) : jat l k = j := by
  unfold jat
  rw [Int.toNat_natCast, List.getD_eq_getElem?_getD, h]
  rfl
theorem jat_cases (l : List Jb) (i : Int) : jat l i = Jb.none ∨ ∃ k : Nat, i.toNat = k ∧ l[k]? = some (jat l i) := by
  unfold jat
  rw [List.getD_eq_getElem?_getD]
  cases h : l[i.toNat]? with
  | none => exact .inl rfl
  | some j => exact .inr ⟨_, rfl, h⟩
theorem validB_fair {l : List Jb} (h : validB l = true) : Fair l := fun i => by
  unfold validB at h
  simp only [Bool.and_eq_true] at h
  rcases jat_cases l i with e | ⟨k, _, e⟩
  · rw [e]; decide
  · have := allB_at h.2 k _ e
    unfold jobB at this
    simp only [Bool.and_eq_true, decide_eq_true_eq] at this
    omega
theorem validB_up {l : List Jb} (h : validB l = true) (i : Int) : ∀ a ∈ (jat l i).after, 0 ≤ a ∧ a < i := fun a ha => by
  unfold validB at h
  simp only [Bool.and_eq_true] at h
  rcases jat_cases l i with e | ⟨k, hk, e⟩
  · rw [e] at ha; simp [Jb.none] at ha
  · have := allB_at h.2 k _ e
    unfold jobB at this
    simp only [Bool.and_eq_true] at this
    have := riseB_lt this.2 a ha
    omega

/-- How late, as a loop computes it. -/
def lateA (l : List Jb) (t m : Int) : List Int → Int
  | [] => m
  | i :: r => lateA l (t + (jat l i).work) (max m (fineJ (jat l i) (t + (jat l i).work))) r
theorem lateA_eq (l : List Jb) : ∀ (o : List Int) (t m : Int), 0 ≤ m → lateA l t m o = max m (lateF l t o)
  | [], t, m, h => by simp only [lateA, lateF]; omega
  | i :: r, t, m, h => by
    simp only [lateA, lateF]
    rw [lateA_eq l r _ _ (by omega)]
    omega

/-- How often a is named by the jobs of some numbers. -/
def named (l : List Jb) (o : List Int) (a : Int) : Nat := match o with
  | [] => 0
  | i :: r => (jat l i).after.count a + named l r a
theorem named_append (l : List Jb) (a : Int) (p q : List Int) : named l (p ++ q) a = named l p a + named l q a := by
  induction p with
  | nil => simp [named]
  | cons x r ih => simp only [List.cons_append, named, ih]; omega
theorem named_perm {l : List Jb} {p q : List Int} (h : p.Perm q) (a : Int) : named l p a = named l q a := by
  induction h with
  | nil => rfl
  | cons x _ ih => simp only [named, ih]
  | swap x y r => simp only [named]; omega
  | trans _ _ h1 h2 => exact h1.trans h2
theorem named_zero {l : List Jb} {o : List Int} {a : Int} : named l o a = 0 ↔ ∀ i ∈ o, a ∉ (jat l i).after := by
  induction o with
  | nil => simp [named]
  | cons x r ih =>
    simp only [named, Nat.add_eq_zero_iff, ih, List.count_eq_zero, List.mem_cons, forall_eq_or_imp]
end Go.Proofs.Ytnfcigbiebbjdaa
