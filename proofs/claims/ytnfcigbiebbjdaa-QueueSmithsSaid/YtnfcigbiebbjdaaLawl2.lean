/-
  The plain mathematics of Lawler's order: among the best the last one is taken, so there is one order alone. No program in sight.
  No conditions.
-/
import Derived.Test.YtnfcigbiebbjdaaJobs
namespace Go.Proofs.Ytnfcigbiebbjdaa

section
variable (l : List Jb)
/-- The time at which the last of those is done that are not in R. -/
def upTo (n : Nat) (R : List Int) : Int := works l (nums n) - works l R
def Free (n : Nat) (R : List Int) (z : Int) : Prop := 0 ≤ z ∧ z < (n : Int) ∧ z ∉ R ∧ ∀ i : Int, 0 ≤ i → i < n → i ∉ R → z ∉ (jat l i).after
def Pick (n : Nat) (R : List Int) (b : Int) : Prop :=
  Free l n R b ∧ ∀ z, Free l n R z → fineJ (jat l b) (upTo l n R) ≤ fineJ (jat l z) (upTo l n R) ∧ (fineJ (jat l z) (upTo l n R) ≤ fineJ (jat l b) (upTo l n R) → z ≤ b)
inductive GoodL (n : Nat) : List Int → Prop
  | nil : GoodL n []
  | cons {R b} : GoodL n R → Pick l n R b → GoodL n (b :: R)
theorem Pick.best {n : Nat} {R : List Int} {b : Int} (h : Pick l n R b) : Best l n R b :=
  ⟨h.1.1, h.1.2.1, h.1.2.2.1, h.1.2.2.2, fun z z0 z1 z2 z3 => (h.2 z ⟨z0, z1, z2, z3⟩).1⟩
theorem GoodL.good {n : Nat} {R : List Int} (h : GoodL l n R) : Good l n R := by
  induction h with
  | nil => exact .nil
  | cons _ h2 ih => exact .cons ih (h2.best l)
theorem GoodL.uniq {n : Nat} : ∀ {p q : List Int}, GoodL l n p → GoodL l n q → p.length = q.length → p = q
  | [], [], _, _, _ => rfl
  | [], _ :: _, _, _, h => by simp at h
  | _ :: _, [], _, _, h => by simp at h
  | b :: p, c :: q, h1, h2, h => by
    cases h1 with
    | cons g1 k1 =>
      cases h2 with
      | cons g2 k2 =>
        obtain rfl := GoodL.uniq g1 g2 (by simpa using h)
        have a1 := k1.2 c k2.1
        have a2 := k2.2 b k1.1
        have a3 := a1.2 a2.1
        have a4 := a2.2 a1.1
        obtain rfl : b = c := by omega
        rfl
/-- The scan for the one to be placed, as far as k. -/
def Scan (F : Int → Prop) (f : Int → Int) (k : Nat) (b : Int) : Prop :=
  (b = -1 ∧ ∀ z : Int, 0 ≤ z → z < k → ¬ F z) ∨ (0 ≤ b ∧ b < k ∧ F b ∧ ∀ z : Int, 0 ≤ z → z < k → F z → f b ≤ f z ∧ (f z ≤ f b → z ≤ b))
theorem Scan.zero (F : Int → Prop) (f : Int → Int) : Scan F f 0 (-1) := .inl ⟨rfl, fun z h1 h2 => by omega⟩
theorem Scan.skip {F : Int → Prop} {f : Int → Int} {k : Nat} {b : Int} (h : Scan F f k b) (hk : ¬ F k) : Scan F f (k + 1) b := by
  rcases h with ⟨h1, h2⟩ | ⟨h1, h2, h3, h4⟩
  · exact .inl ⟨h1, fun z z0 z1 => by
      by_cases e : z = k
      · subst e; exact hk
      · exact h2 z z0 (by omega)⟩
  · refine .inr ⟨h1, by omega, h3, fun z z0 z1 hz => ?_⟩
    by_cases e : z = k
    · subst e; exact absurd hz hk
    · exact h4 z z0 (by omega) hz
theorem Scan.keep {F : Int → Prop} {f : Int → Int} {k : Nat} {b : Int} (h : Scan F f k b) (h0 : 0 ≤ b) (hb : ¬ f k ≤ f b) : Scan F f (k + 1) b := by
  rcases h with ⟨h1, h2⟩ | ⟨h1, h2, h3, h4⟩
  · omega
  · refine .inr ⟨h1, by omega, h3, fun z z0 z1 hz => ?_⟩
    by_cases e : z = k
    · subst e; exact ⟨by omega, fun h => absurd h hb⟩
    · exact h4 z z0 (by omega) hz
theorem Scan.take {F : Int → Prop} {f : Int → Int} {k : Nat} {b : Int} (h : Scan F f k b) (hk : F k) (hb : b < 0 ∨ f k ≤ f b) : Scan F f (k + 1) k := by
  refine .inr ⟨by omega, by omega, hk, fun z z0 z1 hz => ?_⟩
  by_cases e : z = k
  · subst e; exact ⟨Int.le_refl _, fun _ => Int.le_refl _⟩
  · rcases h with ⟨h1, h2⟩ | ⟨h1, h2, h3, h4⟩
    · exact absurd hz (h2 z z0 (by omega))
    · have := h4 z z0 (by omega) hz
      refine ⟨by omega, fun _ => by omega⟩
theorem Scan.pick {n : Nat} {R : List Int} {b : Int} (h : Scan (Free l n R) (fun z => fineJ (jat l z) (upTo l n R)) n b) (hup : ∀ i, ∀ a ∈ (jat l i).after, a < i) (hl : R.length < n) : Pick l n R b := by
  rcases h with ⟨h1, h2⟩ | ⟨h1, h2, h3, h4⟩
  · obtain ⟨z, z0, z1, z2, z3⟩ := some_free l hup hl
    exact absurd ⟨z0, z1, z2, z3⟩ (h2 z z0 z1)
  · exact ⟨h3, fun z hz => h4 z hz.1 hz.2.1 hz⟩
theorem GoodL.sub {n : Nat} {R : List Int} (h : GoodL l n R) : R.Nodup ∧ ∀ i ∈ R, 0 ≤ i ∧ i < (n : Int) := (h.good l).nodup l
/-- Those that are not in R. -/
def rest (n : Nat) (R : List Int) : List Int := (nums n).filter fun i => decide (i ∉ R)
theorem mem_rest {n : Nat} {R : List Int} {i : Int} : i ∈ rest n R ↔ 0 ≤ i ∧ i < n ∧ i ∉ R := by
  unfold rest
  rw [List.mem_filter, mem_nums]
  simp [and_assoc]
theorem rest_perm {n : Nat} {R : List Int} (h : R.Nodup ∧ ∀ i ∈ R, 0 ≤ i ∧ i < (n : Int)) : (rest n R ++ R).Perm (nums n) := by
  refine isOrd.perm (n := n) ⟨?_, ?_, ?_⟩
  · have h1 : (rest n R ++ R).Nodup := by
      refine List.nodup_append.2 ⟨(nums_nodup n).filter _, h.1, fun a ha b hb e => ?_⟩
      subst e
      exact (mem_rest.1 ha).2.2 hb
    have h2 : (rest n R ++ R).length ≤ n := short_of_nodup n _ h1 fun i hi => by
      rcases List.mem_append.1 hi with hi | hi
      · exact ⟨(mem_rest.1 hi).1, (mem_rest.1 hi).2.1⟩
      · exact h.2 i hi
    have h3 : (nums n).length ≤ (rest n R ++ R).length := length_le_of_sub (nums_nodup n) fun i hi => by
      by_cases e : i ∈ R
      · exact List.mem_append.2 (.inr e)
      · exact List.mem_append.2 (.inl (mem_rest.2 ⟨(mem_nums.1 hi).1, (mem_nums.1 hi).2, e⟩))
    rw [nums_length] at h3
    omega
  · refine List.nodup_append.2 ⟨(nums_nodup n).filter _, h.1, fun a ha b hb e => ?_⟩
    subst e
    exact (mem_rest.1 ha).2.2 hb
  · intro i hi
    rcases List.mem_append.1 hi with hi | hi
    · exact ⟨(mem_rest.1 hi).1, (mem_rest.1 hi).2.1⟩
    · exact h.2 i hi
/-- How many that are not placed name a. -/
theorem named_rest {n : Nat} {R : List Int} (h : R.Nodup ∧ ∀ i ∈ R, 0 ≤ i ∧ i < (n : Int)) (a : Int) : (named l (nums n) a : Int) - named l R a = named l (rest n R) a := by
  have := named_perm (l := l) (rest_perm h) a
  rw [named_append] at this
  omega
theorem named_free {n : Nat} {R : List Int} (h : R.Nodup ∧ ∀ i ∈ R, 0 ≤ i ∧ i < (n : Int)) (z : Int) (z0 : 0 ≤ z) (z1 : z < n) :
    Free l n R z ↔ z ∉ R ∧ (named l (nums n) z : Int) - named l R z = 0 := by
  rw [named_rest l h]
  constructor
  · rintro ⟨_, _, h3, h4⟩
    refine ⟨h3, ?_⟩
    have : named l (rest n R) z = 0 := named_zero.2 fun i hi => by
      have := mem_rest.1 hi
      exact h4 i this.1 this.2.1 this.2.2
    omega
  · rintro ⟨h3, h4⟩
    have : named l (rest n R) z = 0 := by omega
    exact ⟨z0, z1, h3, fun i i0 i1 i2 => named_zero.1 this i (mem_rest.2 ⟨i0, i1, i2⟩)⟩
theorem works_rest {n : Nat} {R : List Int} (h : R.Nodup ∧ ∀ i ∈ R, 0 ≤ i ∧ i < (n : Int)) : upTo l n R = works l (rest n R) := by
  have := works_perm l (rest_perm h)
  rw [works_append] at this
  unfold upTo
  omega
end
/-- A row of numbers made of a law. -/
def tab (n : Nat) (f : Int → Int) : List Int := (nums n).map f
theorem tab_length (n : Nat) (f : Int → Int) : (tab n f).length = n := by simp [tab, nums_length]
theorem tab_get {n : Nat} {f : Int → Int} {i : Nat} (h : i < n) : (tab n f)[i]? = some (f i) := by
  unfold tab
  rw [List.getElem?_map]
  simp [nums, h]
theorem tab_set {n : Nat} {f : Int → Int} {i : Nat} {x : Int} : (tab n f).set i x = tab n fun z => if z = (i : Int) then x else f z := by
  refine List.ext_getElem? fun k => ?_
  by_cases hk : k < n
  · rw [tab_get hk]
    by_cases e : i = k
    · subst e
      rw [List.getElem?_set_self (by rw [tab_length]; exact hk), if_pos rfl]
    · rw [List.getElem?_set_ne e, tab_get hk, if_neg (by omega)]
  · rw [List.getElem?_eq_none (by rw [List.length_set, tab_length]; omega), List.getElem?_eq_none (by rw [tab_length]; omega)]
theorem tab_congr {n : Nat} {f g : Int → Int} (h : ∀ z : Int, 0 ≤ z → z < n → f z = g z) : tab n f = tab n g := by
  unfold tab
  refine List.map_congr_left fun z hz => ?_
  have := mem_nums.1 hz
  exact h z this.1 this.2
theorem tab_zero (n : Nat) : List.replicate n (0 : Int) = tab n fun _ => 0 := by
  refine List.ext_getElem? fun k => ?_
  by_cases hk : k < n
  · rw [tab_get hk]; simp [hk]
  · rw [List.getElem?_eq_none (by simp; omega), List.getElem?_eq_none (by rw [tab_length]; omega)]
end Go.Proofs.Ytnfcigbiebbjdaa
