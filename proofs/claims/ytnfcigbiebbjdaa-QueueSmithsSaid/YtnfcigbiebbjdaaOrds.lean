/-
  The plain mathematics of orders of numbers: permutations of 0 to n-1. No program in sight.
  No conditions.
-/
import Derived.Test.YtnfcigbiebbjdaaLawl
namespace Go.Proofs.Ytnfcigbiebbjdaa

def nums (n : Nat) : List Int := (List.range n).map Int.ofNat
theorem mem_nums {n : Nat} {i : Int} : i ∈ nums n ↔ 0 ≤ i ∧ i < n := by
  unfold nums
  rw [List.mem_map]
  constructor
  · rintro ⟨a, h, rfl⟩
    have := List.mem_range.1 h
    simp only [Int.ofNat_eq_natCast]
    omega
  · rintro ⟨h1, h2⟩
    exact ⟨i.toNat, List.mem_range.2 (by omega), by simp only [Int.ofNat_eq_natCast]; omega⟩
theorem nums_length (n : Nat) : (nums n).length = n := by simp [nums]
theorem nums_nodup (n : Nat) : (nums n).Nodup := by
  unfold nums
  exact (List.nodup_range (n := n)).map _ fun a b hne h => hne (Int.ofNat.inj h)
theorem nums_succ (n : Nat) : nums (n + 1) = nums n ++ [(n : Int)] := by simp [nums, List.range_succ]

/-- Each number below n once. -/
def isOrd (n : Nat) (o : List Int) : Prop := o.length = n ∧ o.Nodup ∧ ∀ i ∈ o, 0 ≤ i ∧ i < n
theorem short_of_nodup : ∀ (n : Nat) (o : List Int), o.Nodup → (∀ i ∈ o, 0 ≤ i ∧ i < (n : Int)) → o.length ≤ n
  | 0, o, _, h => by
    cases o with
    | nil => exact Nat.le_refl _
    | cons x r => have := h x (by simp); omega
  | n + 1, o, hd, h => by
    have h1 := short_of_nodup n (o.erase (n : Int)) (hd.erase _) fun i hi => by
      have h2 := h i (List.mem_of_mem_erase hi)
      have h3 : i ≠ (n : Int) := fun e => by subst e; exact (hd.not_mem_erase) hi
      omega
    have h4 := List.length_erase_le (a := (n : Int)) (l := o)
    have h5 : o.length ≤ (o.erase (n : Int)).length + 1 := by rw [List.length_erase]; split <;> omega
    omega
theorem length_le_of_sub {a b : List Int} (h : a.Nodup) (hs : ∀ i ∈ a, i ∈ b) : a.length ≤ b.length := by
  induction a generalizing b with
  | nil => simp
  | cons x r ih =>
    have hx := hs x (by simp)
    have h1 := ih (b := b.erase x) (List.nodup_cons.1 h).2 fun i hi => by
      have hne : i ≠ x := fun e => by subst e; exact (List.nodup_cons.1 h).1 hi
      exact (List.mem_erase_of_ne hne).2 (hs i (by simp [hi]))
    have h2 := List.length_erase_of_mem hx
    have h3 := List.length_pos_of_mem hx
    simp only [List.length_cons]
    omega
theorem isOrd.mem {n : Nat} {o : List Int} (h : isOrd n o) (i : Int) : i ∈ o ↔ 0 ≤ i ∧ i < n := by
  refine ⟨h.2.2 i, fun hi => ?_⟩
  by_cases hm : i ∈ o
  · exact hm
  · have := short_of_nodup n (i :: o) (List.nodup_cons.2 ⟨hm, h.2.1⟩) fun j hj => by
      rcases List.mem_cons.1 hj with rfl | hj
      · exact hi
      · exact h.2.2 j hj
    have h1 := h.1
    simp at this
    omega
theorem isOrd.perm {n : Nat} {o : List Int} (h : isOrd n o) : o.Perm (nums n) := by
  rw [List.perm_iff_count]
  intro a
  by_cases ha : a ∈ o
  · rw [h.2.1.count, (nums_nodup n).count, if_pos ha, if_pos (mem_nums.2 ((h.mem a).1 ha))]
  · rw [List.count_eq_zero_of_not_mem ha, List.count_eq_zero_of_not_mem fun hm => ha ((h.mem a).2 (mem_nums.1 hm))]
theorem isOrd_of_perm {n : Nat} {o : List Int} (h : o.Perm (nums n)) : isOrd n o := ⟨by rw [h.length_eq, nums_length], h.nodup_iff.2 (nums_nodup n), fun _ hi => mem_nums.1 (h.mem_iff.1 hi)⟩

section
variable (l : List Jb)
/-- b is given the place ahead of those of R. -/
def Best (n : Nat) (R : List Int) (b : Int) : Prop :=
  0 ≤ b ∧ b < (n : Int) ∧ b ∉ R ∧ (∀ i : Int, 0 ≤ i → i < n → i ∉ R → b ∉ (jat l i).after) ∧
  ∀ z : Int, 0 ≤ z → z < n → z ∉ R → (∀ i : Int, 0 ≤ i → i < n → i ∉ R → z ∉ (jat l i).after) → fineJ (jat l b) (works l (nums n) - works l R) ≤ fineJ (jat l z) (works l (nums n) - works l R)
inductive Good (n : Nat) : List Int → Prop
  | nil : Good n []
  | cons {R b} : Good n R → Best l n R b → Good n (b :: R)
theorem Good.suffix {n : Nat} {p q : List Int} (h : Good l n (p ++ q)) : Good l n q := by
  induction p with
  | nil => exact h
  | cons x r ih =>
    cases h with
    | cons h1 _ => exact ih h1
theorem Good.nodup {n : Nat} {o : List Int} (h : Good l n o) : o.Nodup ∧ ∀ i ∈ o, 0 ≤ i ∧ i < (n : Int) := by
  induction h with
  | nil => simp
  | cons _ h2 ih =>
    refine ⟨List.nodup_cons.2 ⟨h2.2.2.1, ih.1⟩, fun i hi => ?_⟩
    rcases List.mem_cons.1 hi with rfl | hi
    · exact ⟨h2.1, h2.2.1⟩
    · exact ih.2 i hi
theorem Good.ord {n : Nat} {o : List Int} (h : Good l n o) (hn : o.length = n) : isOrd n o := ⟨hn, (h.nodup l).1, (h.nodup l).2⟩
theorem Good.rest {n : Nat} {p q : List Int} (h : isOrd n (p ++ q)) (i : Int) : (0 ≤ i ∧ i < n ∧ i ∉ q) ↔ i ∈ p := by
  have hm := h.mem i
  have hd := List.nodup_append.1 h.2.1
  rw [List.mem_append] at hm
  constructor
  · rintro ⟨h1, h2, h3⟩
    rcases hm.2 ⟨h1, h2⟩ with h | h
    · exact h
    · exact absurd h h3
  · intro hp
    have h1 := hm.1 (.inl hp)
    exact ⟨h1.1, h1.2, fun hq => hd.2.2 i hp i hq rfl⟩
theorem Good.lawl {n : Nat} {o : List Int} (h : Good l n o) (hn : o.length = n) : Lawl l o := by
  intro p b q e z hz hno
  subst e
  have ho := h.ord l hn
  have hb : Best l n q b := by
    have := h.suffix l
    cases this with
    | cons _ h2 => exact h2
  have hr := Good.rest (n := n) (p := p ++ [b]) (q := q) (by simpa using ho)
  have hw : works l (nums n) - works l q = works l (p ++ [b]) := by
    rw [← works_perm l ho.perm, show p ++ b :: q = (p ++ [b]) ++ q by simp, works_append l (p ++ [b]) q]
    omega
  have hz' := (hr z).2 hz
  have := hb.2.2.2.2 z hz'.1 hz'.2.1 hz'.2.2 fun i h1 h2 h3 => hno i ((hr i).1 ⟨h1, h2, h3⟩)
  rwa [hw] at this
theorem Good.kept {n : Nat} {o : List Int} (h : Good l n o) (hn : o.length = n) : Kept l o := by
  have ho := h.ord l hn
  have key : ∀ q p, o = p ++ q → Kept l q := by
    intro q
    induction q with
    | nil => intro p _; exact List.Pairwise.nil
    | cons b q ih =>
      intro p e
      refine List.pairwise_cons.2 ⟨fun y hy => ?_, ih (p ++ [b]) (by rw [e]; simp)⟩
      -- y stands behind b: when y was placed b was not
      obtain ⟨q1, q2, e2⟩ := List.append_of_mem hy
      have e3 : o = (p ++ b :: q1) ++ y :: q2 := by rw [e, e2]; simp
      have hy2 : Best l n q2 y := by
        have : Good l n ((p ++ b :: q1) ++ y :: q2) := e3 ▸ h
        cases this.suffix l with
        | cons _ h2 => exact h2
      have hr := Good.rest (n := n) (p := (p ++ b :: q1) ++ [y]) (q := q2) (by rw [e3] at ho; simpa using ho)
      have hb := (hr b).2 (by simp)
      exact hy2.2.2.2.1 b hb.1 hb.2.1 hb.2.2
  exact key o [] rfl
/-- **No order that keeps every After is late less.** -/
theorem Good.least (hf : Fair l) (hs : ∀ i, i ∉ (jat l i).after) {n : Nat} {o m : List Int} (h : Good l n o) (hn : o.length = n) (hm : m.Perm (nums n)) (hk : Kept l m) : lateF l 0 o ≤ lateF l 0 m :=
  lawl_least l hf n o hn (h.lawl l hn) m (hm.trans (h.ord l hn).perm.symm) hk fun i _ => hs i
/-- There is always one that may be placed: the last one that is not. -/
theorem some_free {n : Nat} {R : List Int} (hup : ∀ i, ∀ a ∈ (jat l i).after, a < i) (hl : R.length < n) :
    ∃ b : Int, 0 ≤ b ∧ b < (n : Int) ∧ b ∉ R ∧ ∀ i : Int, 0 ≤ i → i < (n : Int) → i ∉ R → b ∉ (jat l i).after := by
  have key : ∀ k : Nat, k ≤ n → (∀ i : Int, (k : Int) ≤ i → i < n → i ∈ R) → ∃ b : Int, 0 ≤ b ∧ b < (n : Int) ∧ b ∉ R ∧ ∀ i : Int, 0 ≤ i → i < (n : Int) → i ∉ R → b ∉ (jat l i).after := by
    intro k
    induction k with
    | zero =>
      intro _ h
      exfalso
      have h2 : (nums n).length ≤ R.length := length_le_of_sub (nums_nodup n) fun i hi => h i (by have := mem_nums.1 hi; omega) (mem_nums.1 hi).2
      rw [nums_length] at h2
      omega
    | succ k ih =>
      intro hk h
      by_cases hm : (k : Int) ∈ R
      · exact ih (by omega) fun i h1 h2 => by
          by_cases e : i = k
          · subst e; exact hm
          · exact h i (by omega) h2
      · exact ⟨k, by omega, by omega, hm, fun i h1 h2 h3 ha => by
          have h4 := hup i _ ha
          exact h3 (h i (by omega) h2)⟩
  exact key n (Nat.le_refl _) fun i h1 h2 => by omega
end
end Go.Proofs.Ytnfcigbiebbjdaa
