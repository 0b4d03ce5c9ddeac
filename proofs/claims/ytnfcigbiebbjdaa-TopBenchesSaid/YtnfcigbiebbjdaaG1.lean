/-
  The seat's texts Lawl Ords Jobs Lawl2 Smithm Johnm Sortm Swo Levels Kit Kit2 Ints Ints2 in one: the contracts of the functions that the law reaches, and the plain laws that they rest on.
  Conditions: as each theorem states them.
-/
import Derived.WalkKit
import Derived.WalkSpells
import Derived.WalkLawsBesides
import Derived.BigQuiet
import Derived.Lib.Hide
import Derived.OwnWalk
import Derived.StillTail
import Derived.Laws.AppendOwn
namespace Go.Proofs.Ytnfcigbiebbjdaa

/-- A job. -/
structure Jb where
  work : Int
  rel : Int
  due : Int
  wt : Int
  after : List Int
def Jb.none : Jb := ⟨0, 0, 0, 0, []⟩
/-- What it costs that is done at a time. -/
def fineJ (j : Jb) (t : Int) : Int := j.wt * max 0 (t - j.due)
def jat (l : List Jb) (i : Int) : Jb := l.getD i.toNat Jb.none

section
variable (l : List Jb)
def works : List Int → Int
  | [] => 0
  | i :: r => (jat l i).work + works r
def lateF (t : Int) : List Int → Int
  | [] => 0
  | i :: r => max (fineJ (jat l i) (t + (jat l i).work)) (lateF (t + (jat l i).work) r)
/-- No job takes a time below 0, or costs less for being later. -/
def Fair : Prop := ∀ i, 0 ≤ (jat l i).work ∧ 0 ≤ (jat l i).wt

theorem works_append (a b : List Int) : works l (a ++ b) = works l a + works l b := by
  induction a with
  | nil => simp [works]
  | cons x r ih => simp only [List.cons_append, works, ih]; omega
theorem works_perm {a b : List Int} (h : a.Perm b) : works l a = works l b := by
  induction h with
  | nil => rfl
  | cons x _ ih => simp only [works, ih]
  | swap x y r => simp only [works]; omega
  | trans _ _ h1 h2 => exact h1.trans h2
theorem works_nonneg (h : Fair l) (a : List Int) : 0 ≤ works l a := by
  induction a with
  | nil => exact Int.le_refl _
  | cons x r ih => have := (h x).1; simp only [works]; omega
theorem lateF_nonneg (t : Int) (a : List Int) : 0 ≤ lateF l t a := by
  induction a generalizing t with
  | nil => exact Int.le_refl _
  | cons x r ih => have := ih (t + (jat l x).work); simp only [lateF]; omega
theorem lateF_append (t : Int) (a b : List Int) : lateF l t (a ++ b) = max (lateF l t a) (lateF l (t + works l a) b) := by
  induction a generalizing t with
  | nil => simp only [List.nil_append, works, lateF, Int.add_zero]; have := lateF_nonneg l t b; omega
  | cons x r ih =>
    simp only [List.cons_append, lateF, works, ih]
    rw [show t + ((jat l x).work + works l r) = t + (jat l x).work + works l r by omega]
    omega
theorem fine_mono {j : Jb} (h : 0 ≤ j.wt) {s t : Int} (hst : s ≤ t) : fineJ j s ≤ fineJ j t := Int.mul_le_mul_of_nonneg_left (by omega) h
theorem lateF_mono (h : Fair l) {s t : Int} (hst : s ≤ t) (a : List Int) : lateF l s a ≤ lateF l t a := by
  induction a generalizing s t with
  | nil => exact Int.le_refl _
  | cons x r ih =>
    have h1 := fine_mono (h x).2 (s := s + (jat l x).work) (t := t + (jat l x).work) (by omega)
    have h2 := ih (s := s + (jat l x).work) (t := t + (jat l x).work) (by omega)
    simp only [lateF]
    omega
theorem lateF_erase (h : Fair l) (t : Int) (b : Int) (a : List Int) : lateF l t (a.erase b) ≤ lateF l t a := by
  induction a generalizing t with
  | nil => exact Int.le_refl _
  | cons x r ih =>
    by_cases e : x = b
    · subst e
      rw [List.erase_cons_head]
      have := lateF_mono l h (s := t) (t := t + (jat l x).work) (by have := (h x).1; omega) r
      simp only [lateF]
      omega
    · rw [List.erase_cons_tail (by simpa using e)]
      have := ih (t + (jat l x).work)
      simp only [lateF]
      omega
/-- The order keeps what each job comes after. -/
def Kept (o : List Int) : Prop := o.Pairwise fun x y => y ∉ (jat l x).after
/-- Each job of the order is the best of those that may be the last of the ones up to it. -/
def Lawl (o : List Int) : Prop := ∀ p b q, o = p ++ b :: q → ∀ z ∈ p ++ [b], (∀ i ∈ p ++ [b], z ∉ (jat l i).after) → fineJ (jat l b) (works l (p ++ [b])) ≤ fineJ (jat l z) (works l (p ++ [b]))
theorem Lawl.init {o : List Int} {b : Int} (h : Lawl l (o ++ [b])) : Lawl l o := fun p c q e => h p c (q ++ [b]) (by rw [e]; simp)
/-- **Lawler's order is late the least.** -/
theorem lawl_least (hf : Fair l) : ∀ (n : Nat) (P : List Int), P.length = n → Lawl l P → ∀ o : List Int, o.Perm P → Kept l o → (∀ i ∈ P, i ∉ (jat l i).after) → lateF l 0 P ≤ lateF l 0 o
  | 0, P, hn, _, o, _, _, _ => by
    obtain rfl : P = [] := List.eq_nil_of_length_eq_zero hn
    exact lateF_nonneg l 0 o
  | n + 1, P, hn, hL, o, hp, hk, hs => by
    rcases List.eq_nil_or_concat P with rfl | ⟨Q, b, rfl⟩
    · simp at hn
    rw [List.concat_eq_append] at *
    rcases List.eq_nil_or_concat o with rfl | ⟨R, z, rfl⟩
    · have := hp.length_eq; simp at this
    rw [List.concat_eq_append] at *
    have hQ : ((R ++ [z]).erase b).Perm Q := by
      have h1 := hp.erase b
      have h2 : ((Q ++ [b]).erase b).Perm Q := by
        have h3 : (Q ++ [b]).Perm (b :: Q) := List.perm_append_comm
        have h4 := h3.erase b
        rw [List.erase_cons_head] at h4
        exact h4
      exact h1.trans h2
    have ih := lawl_least hf n Q (by simpa using hn) (Lawl.init l hL) _ hQ (hk.sublist (List.erase_sublist)) fun i hi => hs i (by simp [hi])
    have hw : works l (R ++ [z]) = works l (Q ++ [b]) := works_perm l hp
    have hz : z ∈ Q ++ [b] := hp.mem_iff.1 (by simp)
    have hno : ∀ i ∈ Q ++ [b], z ∉ (jat l i).after := fun i hi => by
      have hi' := hp.mem_iff.2 hi
      rcases List.mem_append.1 hi' with h | h
      · exact (List.pairwise_append.1 hk).2.2 i h z (by simp)
      · obtain rfl : i = z := by simpa using h
        exact hs _ hz
    have hb := hL Q b [] (by simp) z hz hno
    have h1 := lateF_erase l hf 0 b (R ++ [z])
    have e1 := lateF_append l 0 Q [b]
    have e2 := lateF_append l 0 R [z]
    have w1 := works_append l Q [b]
    have w2 := works_append l R [z]
    simp only [lateF, works, Int.zero_add, Int.add_zero] at e1 e2 w1 w2
    rw [← w1] at e1
    rw [← w2, hw] at e2
    have n1 := lateF_nonneg l 0 Q
    have n2 := lateF_nonneg l 0 R
    omega
end
end Go.Proofs.Ytnfcigbiebbjdaa
namespace Go.Proofs.Ytnfcigbiebbjdaa

def nums (n : Nat) : List Int := (List.range n).map Int.ofNat
theorem mem_nums {n : Nat} {i : Int} : i ∈ nums n ↔ 0 ≤ i ∧ i < n := by
  unfold nums
  rw [List.mem_map]
  constructor
  · rintro ⟨a, h, rfl⟩
    have := List.mem_range.1 h
    simp only [Int.ofNat_eq_natCast]
    omega
  · rintro ⟨h1, h2⟩
    exact ⟨i.toNat, List.mem_range.2 (by omega), by simp only [Int.ofNat_eq_natCast]; omega⟩
theorem nums_length (n : Nat) : (nums n).length = n := by simp [nums]
theorem nums_nodup (n : Nat) : (nums n).Nodup := by
  unfold nums
  exact (List.nodup_range (n := n)).map _ fun a b hne h => hne (Int.ofNat.inj h)
theorem nums_succ (n : Nat) : nums (n + 1) = nums n ++ [(n : Int)] := by simp [nums, List.range_succ]

/-- Each number below n once. -/
def isOrd (n : Nat) (o : List Int) : Prop := o.length = n ∧ o.Nodup ∧ ∀ i ∈ o, 0 ≤ i ∧ i < n
theorem short_of_nodup : ∀ (n : Nat) (o : List Int), o.Nodup → (∀ i ∈ o, 0 ≤ i ∧ i < (n : Int)) → o.length ≤ n
  | 0, o, _, h => by
    cases o with
    | nil => exact Nat.le_refl _
    | cons x r => have := h x (by simp); omega
  | n + 1, o, hd, h => by
    have h1 := short_of_nodup n (o.erase (n : Int)) (hd.erase _) fun i hi => by
      have h2 := h i (List.mem_of_mem_erase hi)
      have h3 : i ≠ (n : Int) := fun e => by subst e; exact (hd.not_mem_erase) hi
      omega
    have h4 := List.length_erase_le (a := (n : Int)) (l := o)
    have h5 : o.length ≤ (o.erase (n : Int)).length + 1 := by rw [List.length_erase]; split <;> omega
    omega
theorem length_le_of_sub {a b : List Int} (h : a.Nodup) (hs : ∀ i ∈ a, i ∈ b) : a.length ≤ b.length := by
  induction a generalizing b with
  | nil => simp
  | cons x r ih =>
    have hx := hs x (by simp)
    have h1 := ih (b := b.erase x) (List.nodup_cons.1 h).2 fun i hi => by
      have hne : i ≠ x := fun e => by subst e; exact (List.nodup_cons.1 h).1 hi
      exact (List.mem_erase_of_ne hne).2 (hs i (by simp [hi]))
    have h2 := List.length_erase_of_mem hx
    have h3 := List.length_pos_of_mem hx
    simp only [List.length_cons]
    omega
theorem isOrd.mem {n : Nat} {o : List Int} (h : isOrd n o) (i : Int) : i ∈ o ↔ 0 ≤ i ∧ i < n := by
  refine ⟨h.2.2 i, fun hi => ?_⟩
  by_cases hm : i ∈ o
  · exact hm
  · have := short_of_nodup n (i :: o) (List.nodup_cons.2 ⟨hm, h.2.1⟩) fun j hj => by
      rcases List.mem_cons.1 hj with rfl | hj
      · exact hi
      · exact h.2.2 j hj
    have h1 := h.1
    simp at this
    omega
theorem isOrd.perm {n : Nat} {o : List Int} (h : isOrd n o) : o.Perm (nums n) := by
  rw [List.perm_iff_count]
  intro a
  by_cases ha : a ∈ o
  · rw [h.2.1.count, (nums_nodup n).count, if_pos ha, if_pos (mem_nums.2 ((h.mem a).1 ha))]
  · rw [List.count_eq_zero_of_not_mem ha, List.count_eq_zero_of_not_mem fun hm => ha ((h.mem a).2 (mem_nums.1 hm))]
theorem isOrd_of_perm {n : Nat} {o : List Int} (h : o.Perm (nums n)) : isOrd n o := ⟨by rw [h.length_eq, nums_length], h.nodup_iff.2 (nums_nodup n), fun _ hi => mem_nums.1 (h.mem_iff.1 hi)⟩

section
variable (l : List Jb)
/-- b is given the place ahead of those of R. -/
def Best (n : Nat) (R : List Int) (b : Int) : Prop :=
  0 ≤ b ∧ b < (n : Int) ∧ b ∉ R ∧ (∀ i : Int, 0 ≤ i → i < n → i ∉ R → b ∉ (jat l i).after) ∧
  ∀ z : Int, 0 ≤ z → z < n → z ∉ R → (∀ i : Int, 0 ≤ i → i < n → i ∉ R → z ∉ (jat l i).after) → fineJ (jat l b) (works l (nums n) - works l R) ≤ fineJ (jat l z) (works l (nums n) - works l R)
inductive Good (n : Nat) : List Int → Prop
  | nil : Good n []
  | cons {R b} : Good n R → Best l n R b → Good n (b :: R)
theorem Good.suffix {n : Nat} {p q : List Int} (h : Good l n (p ++ q)) : Good l n q := by
  induction p with
  | nil => exact h
  | cons x r ih =>
    cases h with
    | cons h1 _ => exact ih h1
theorem Good.nodup {n : Nat} {o : List Int} (h : Good l n o) : o.Nodup ∧ ∀ i ∈ o, 0 ≤ i ∧ i < (n : Int) := by
  induction h with
  | nil => simp
  | cons _ h2 ih =>
    refine ⟨List.nodup_cons.2 ⟨h2.2.2.1, ih.1⟩, fun i hi => ?_⟩
    rcases List.mem_cons.1 hi with rfl | hi
    · exact ⟨h2.1, h2.2.1⟩
    · exact ih.2 i hi
theorem Good.ord {n : Nat} {o : List Int} (h : Good l n o) (hn : o.length = n) : isOrd n o := ⟨hn, (h.nodup l).1, (h.nodup l).2⟩
theorem Good.rest {n : Nat} {p q : List Int} (h : isOrd n (p ++ q)) (i : Int) : (0 ≤ i ∧ i < n ∧ i ∉ q) ↔ i ∈ p := by
  have hm := h.mem i
  have hd := List.nodup_append.1 h.2.1
  rw [List.mem_append] at hm
  constructor
  · rintro ⟨h1, h2, h3⟩
    rcases hm.2 ⟨h1, h2⟩ with h | h
    · exact h
    · exact absurd h h3
  · intro hp
    have h1 := hm.1 (.inl hp)
    exact ⟨h1.1, h1.2, fun hq => hd.2.2 i hp i hq rfl⟩
theorem Good.lawl {n : Nat} {o : List Int} (h : Good l n o) (hn : o.length = n) : Lawl l o := by
  intro p b q e z hz hno
  subst e
  have ho := h.ord l hn
  have hb : Best l n q b := by
    have := h.suffix l
    cases this with
    | cons _ h2 => exact h2
  have hr := Good.rest (n := n) (p := p ++ [b]) (q := q) (by simpa using ho)
  have hw : works l (nums n) - works l q = works l (p ++ [b]) := by
    rw [← works_perm l ho.perm, show p ++ b :: q = (p ++ [b]) ++ q by simp, works_append l (p ++ [b]) q]
    omega
  have hz' := (hr z).2 hz
  have := hb.2.2.2.2 z hz'.1 hz'.2.1 hz'.2.2 fun i h1 h2 h3 => hno i ((hr i).1 ⟨h1, h2, h3⟩)
  rwa [hw] at this
theorem Good.kept {n : Nat} {o : List Int} (h : Good l n o) (hn : o.length = n) : Kept l o := by
  have ho := h.ord l hn
  have key : ∀ q p, o = p ++ q → Kept l q := by
    intro q
    induction q with
    | nil => intro p _; exact List.Pairwise.nil
    | cons b q ih =>
      intro p e
      refine List.pairwise_cons.2 ⟨fun y hy => ?_, ih (p ++ [b]) (by rw [e]; simp)⟩
      -- y stands behind b: when y was placed b was not
      obtain ⟨q1, q2, e2⟩ := List.append_of_mem hy
      have e3 : o = (p ++ b :: q1) ++ y :: q2 := by rw [e, e2]; simp
      have hy2 : Best l n q2 y := by
        have : Good l n ((p ++ b :: q1) ++ y :: q2) := e3 ▸ h
        cases this.suffix l with
        | cons _ h2 => exact h2
      have hr := Good.rest (n := n) (p := (p ++ b :: q1) ++ [y]) (q := q2) (by rw [e3] at ho; simpa using ho)
      have hb := (hr b).2 (by simp)
      exact hy2.2.2.2.1 b hb.1 hb.2.1 hb.2.2
  exact key o [] rfl
/-- **No order that keeps every After is late less.** -/
theorem Good.least (hf : Fair l) (hs : ∀ i, i ∉ (jat l i).after) {n : Nat} {o m : List Int} (h : Good l n o) (hn : o.length = n) (hm : m.Perm (nums n)) (hk : Kept l m) : lateF l 0 o ≤ lateF l 0 m :=
  lawl_least l hf n o hn (h.lawl l hn) m (hm.trans (h.ord l hn).perm.symm) hk fun i _ => hs i
/-- There is always one that may be placed: the last one that is not. -/
theorem some_free {n : Nat} {R : List Int} (hup : ∀ i, ∀ a ∈ (jat l i).after, a < i) (hl : R.length < n) :
    ∃ b : Int, 0 ≤ b ∧ b < (n : Int) ∧ b ∉ R ∧ ∀ i : Int, 0 ≤ i → i < (n : Int) → i ∉ R → b ∉ (jat l i).after := by
  have key : ∀ k : Nat, k ≤ n → (∀ i : Int, (k : Int) ≤ i → i < n → i ∈ R) → ∃ b : Int, 0 ≤ b ∧ b < (n : Int) ∧ b ∉ R ∧ ∀ i : Int, 0 ≤ i → i < (n : Int) → i ∉ R → b ∉ (jat l i).after := by
    intro k
    induction k with
    | zero =>
      intro _ h
      exfalso
      have h2 : (nums n).length ≤ R.length := length_le_of_sub (nums_nodup n) fun i hi => h i (by have := mem_nums.1 hi; omega) (mem_nums.1 hi).2
      rw [nums_length] at h2
      omega
    | succ k ih =>
      intro hk h
      by_cases hm : (k : Int) ∈ R
      · exact ih (by omega) fun i h1 h2 => by
          by_cases e : i = k
          · subst e; exact hm
          · exact h i (by omega) h2
      · exact ⟨k, by omega, by omega, hm, fun i h1 h2 h3 ha => by
          have h4 := hup i _ ha
          exact h3 (h i (by omega) h2)⟩
  exact key n (Nat.le_refl _) fun i h1 h2 => by omega
end
end Go.Proofs.Ytnfcigbiebbjdaa
namespace Go.Proofs.Ytnfcigbiebbjdaa

/-- Do numbers rise, from one on, below a limit? -/
def riseB (lim : Int) : Int → List Int → Bool
  | _, [] => true
  | last, n :: r => decide (last < n) && (decide (n < lim) && riseB lim n r)
def jobB (i : Nat) (j : Jb) : Bool :=
  decide (1 ≤ j.work ∧ j.work ≤ 10000 ∧ 0 ≤ j.rel ∧ j.rel ≤ 640000 ∧ 0 ≤ j.due ∧ j.due ≤ 640000 ∧ 0 ≤ j.wt ∧ j.wt ≤ 1000) && riseB i (-1) j.after
/-- Are the jobs valid, from number i on? -/
def allB : Nat → List Jb → Bool
  | _, [] => true
  | i, j :: r => jobB i j && allB (i + 1) r
def validB (l : List Jb) : Bool := decide (l.length ≤ 64) && allB 0 l

theorem riseB_lt {lim : Int} : ∀ {last : Int} {a : List Int}, riseB lim last a = true → ∀ x ∈ a, last < x ∧ x < lim
  | _, [], _, x, hx => by simp at hx
  | last, n :: r, h, x, hx => by
    simp only [riseB, Bool.and_eq_true, decide_eq_true_eq] at h
    rcases List.mem_cons.1 hx with rfl | hx
    · exact ⟨h.1, h.2.1⟩
    · have := riseB_lt h.2.2 x hx
      exact ⟨by omega, this.2⟩
theorem riseB_nodup {lim : Int} : ∀ {last : Int} {a : List Int}, riseB lim last a = true → a.Nodup
  | _, [], _ => List.nodup_nil
  | last, n :: r, h => by
    simp only [riseB, Bool.and_eq_true, decide_eq_true_eq] at h
    refine List.nodup_cons.2 ⟨fun hm => ?_, riseB_nodup h.2.2⟩
    have := riseB_lt h.2.2 n hm
    omega
theorem allB_at : ∀ {i : Nat} {l : List Jb}, allB i l = true → ∀ (k : Nat) (j : Jb), l[k]? = some j → jobB (i + k) j = true
  | _, [], _, k, j, hk => by simp at hk
  | i, x :: r, h, k, j, hk => by
    simp only [allB, Bool.and_eq_true] at h
    cases k with
    | zero => simp at hk; subst hk; exact h.1
    | succ k =>
      have := allB_at h.2 k j (by simpa using hk)
      rwa [show i + 1 + k = i + (k + 1) by omega] at this
theorem jat_get {l : List Jb} {k : Nat} {j : Jb} (h : l[k]? = some j) : jat l k = j := by
  unfold jat
  rw [Int.toNat_natCast, List.getD_eq_getElem?_getD, h]
  rfl
theorem jat_cases (l : List Jb) (i : Int) : jat l i = Jb.none ∨ ∃ k : Nat, i.toNat = k ∧ l[k]? = some (jat l i) := by
  unfold jat
  rw [List.getD_eq_getElem?_getD]
  cases h : l[i.toNat]? with
  | none => exact .inl rfl
  | some j => exact .inr ⟨_, rfl, h⟩
theorem validB_fair {l : List Jb} (h : validB l = true) : Fair l := fun i => by
  unfold validB at h
  simp only [Bool.and_eq_true] at h
  rcases jat_cases l i with e | ⟨k, _, e⟩
  · rw [e]; decide
  · have := allB_at h.2 k _ e
    unfold jobB at this
    simp only [Bool.and_eq_true, decide_eq_true_eq] at this
    omega
theorem validB_up {l : List Jb} (h : validB l = true) (i : Int) : ∀ a ∈ (jat l i).after, 0 ≤ a ∧ a < i := fun a ha => by
  unfold validB at h
  simp only [Bool.and_eq_true] at h
  rcases jat_cases l i with e | ⟨k, hk, e⟩
  · rw [e] at ha; simp [Jb.none] at ha
  · have := allB_at h.2 k _ e
    unfold jobB at this
    simp only [Bool.and_eq_true] at this
    have := riseB_lt this.2 a ha
    omega

/-- How late, as a loop computes it. -/
def lateA (l : List Jb) (t m : Int) : List Int → Int
  | [] => m
  | i :: r => lateA l (t + (jat l i).work) (max m (fineJ (jat l i) (t + (jat l i).work))) r
theorem lateA_eq (l : List Jb) : ∀ (o : List Int) (t m : Int), 0 ≤ m → lateA l t m o = max m (lateF l t o)
  | [], t, m, h => by simp only [lateA, lateF]; omega
  | i :: r, t, m, h => by
    simp only [lateA, lateF]
    rw [lateA_eq l r _ _ (by omega)]
    omega

/-- How often a is named by the jobs of some numbers. -/
def named (l : List Jb) (o : List Int) (a : Int) : Nat := match o with
  | [] => 0
  | i :: r => (jat l i).after.count a + named l r a
theorem named_append (l : List Jb) (a : Int) (p q : List Int) : named l (p ++ q) a = named l p a + named l q a := by
  induction p with
  | nil => simp [named]
  | cons x r ih => simp only [List.cons_append, named, ih]; omega
theorem named_perm {l : List Jb} {p q : List Int} (h : p.Perm q) (a : Int) : named l p a = named l q a := by
  induction h with
  | nil => rfl
  | cons x _ ih => simp only [named, ih]
  | swap x y r => simp only [named]; omega
  | trans _ _ h1 h2 => exact h1.trans h2
theorem named_zero {l : List Jb} {o : List Int} {a : Int} : named l o a = 0 ↔ ∀ i ∈ o, a ∉ (jat l i).after := by
  induction o with
  | nil => simp [named]
  | cons x r ih =>
    simp only [named, Nat.add_eq_zero_iff, ih, List.count_eq_zero, List.mem_cons, forall_eq_or_imp]
end Go.Proofs.Ytnfcigbiebbjdaa
namespace Go.Proofs.Ytnfcigbiebbjdaa

section
variable (l : List Jb)
/-- The time at which the last of those is done that are not in R. -/
def upTo (n : Nat) (R : List Int) : Int := works l (nums n) - works l R
def Free (n : Nat) (R : List Int) (z : Int) : Prop := 0 ≤ z ∧ z < (n : Int) ∧ z ∉ R ∧ ∀ i : Int, 0 ≤ i → i < n → i ∉ R → z ∉ (jat l i).after
def Pick (n : Nat) (R : List Int) (b : Int) : Prop :=
  Free l n R b ∧ ∀ z, Free l n R z → fineJ (jat l b) (upTo l n R) ≤ fineJ (jat l z) (upTo l n R) ∧ (fineJ (jat l z) (upTo l n R) ≤ fineJ (jat l b) (upTo l n R) → z ≤ b)
inductive GoodL (n : Nat) : List Int → Prop
  | nil : GoodL n []
  | cons {R b} : GoodL n R → Pick l n R b → GoodL n (b :: R)
theorem Pick.best {n : Nat} {R : List Int} {b : Int} (h : Pick l n R b) : Best l n R b :=
  ⟨h.1.1, h.1.2.1, h.1.2.2.1, h.1.2.2.2, fun z z0 z1 z2 z3 => (h.2 z ⟨z0, z1, z2, z3⟩).1⟩
theorem GoodL.good {n : Nat} {R : List Int} (h : GoodL l n R) : Good l n R := by
  induction h with
  | nil => exact .nil
  | cons _ h2 ih => exact .cons ih (h2.best l)
theorem GoodL.uniq {n : Nat} : ∀ {p q : List Int}, GoodL l n p → GoodL l n q → p.length = q.length → p = q
  | [], [], _, _, _ => rfl
  | [], _ :: _, _, _, h => by simp at h
  | _ :: _, [], _, _, h => by simp at h
  | b :: p, c :: q, h1, h2, h => by
    cases h1 with
    | cons g1 k1 =>
      cases h2 with
      | cons g2 k2 =>
        obtain rfl := GoodL.uniq g1 g2 (by simpa using h)
        have a1 := k1.2 c k2.1
        have a2 := k2.2 b k1.1
        have a3 := a1.2 a2.1
        have a4 := a2.2 a1.1
        obtain rfl : b = c := by omega
        rfl
/-- The scan for the one to be placed, as far as k. -/
def Scan (F : Int → Prop) (f : Int → Int) (k : Nat) (b : Int) : Prop :=
  (b = -1 ∧ ∀ z : Int, 0 ≤ z → z < k → ¬ F z) ∨ (0 ≤ b ∧ b < k ∧ F b ∧ ∀ z : Int, 0 ≤ z → z < k → F z → f b ≤ f z ∧ (f z ≤ f b → z ≤ b))
theorem Scan.zero (F : Int → Prop) (f : Int → Int) : Scan F f 0 (-1) := .inl ⟨rfl, fun z h1 h2 => by omega⟩
theorem Scan.skip {F : Int → Prop} {f : Int → Int} {k : Nat} {b : Int} (h : Scan F f k b) (hk : ¬ F k) : Scan F f (k + 1) b := by
  rcases h with ⟨h1, h2⟩ | ⟨h1, h2, h3, h4⟩
  · exact .inl ⟨h1, fun z z0 z1 => by
      by_cases e : z = k
      · subst e; exact hk
      · exact h2 z z0 (by omega)⟩
  · refine .inr ⟨h1, by omega, h3, fun z z0 z1 hz => ?_⟩
    by_cases e : z = k
    · subst e; exact absurd hz hk
    · exact h4 z z0 (by omega) hz
theorem Scan.keep {F : Int → Prop} {f : Int → Int} {k : Nat} {b : Int} (h : Scan F f k b) (h0 : 0 ≤ b) (hb : ¬ f k ≤ f b) : Scan F f (k + 1) b := by
  rcases h with ⟨h1, h2⟩ | ⟨h1, h2, h3, h4⟩
  · omega
  · refine .inr ⟨h1, by omega, h3, fun z z0 z1 hz => ?_⟩
    by_cases e : z = k
    · subst e; exact ⟨by omega, fun h => absurd h hb⟩
    · exact h4 z z0 (by omega) hz
theorem Scan.take {F : Int → Prop} {f : Int → Int} {k : Nat} {b : Int} (h : Scan F f k b) (hk : F k) (hb : b < 0 ∨ f k ≤ f b) : Scan F f (k + 1) k := by
  refine .inr ⟨by omega, by omega, hk, fun z z0 z1 hz => ?_⟩
  by_cases e : z = k
  · subst e; exact ⟨Int.le_refl _, fun _ => Int.le_refl _⟩
  · rcases h with ⟨h1, h2⟩ | ⟨h1, h2, h3, h4⟩
    · exact absurd hz (h2 z z0 (by omega))
    · have := h4 z z0 (by omega) hz
      refine ⟨by omega, fun _ => by omega⟩
theorem Scan.pick {n : Nat} {R : List Int} {b : Int} (h : Scan (Free l n R) (fun z => fineJ (jat l z) (upTo l n R)) n b) (hup : ∀ i, ∀ a ∈ (jat l i).after, a < i) (hl : R.length < n) : Pick l n R b := by
  rcases h with ⟨h1, h2⟩ | ⟨h1, h2, h3, h4⟩
  · obtain ⟨z, z0, z1, z2, z3⟩ := some_free l hup hl
    exact absurd ⟨z0, z1, z2, z3⟩ (h2 z z0 z1)
  · exact ⟨h3, fun z hz => h4 z hz.1 hz.2.1 hz⟩
theorem GoodL.sub {n : Nat} {R : List Int} (h : GoodL l n R) : R.Nodup ∧ ∀ i ∈ R, 0 ≤ i ∧ i < (n : Int) := (h.good l).nodup l
/-- Those that are not in R. -/
def rest (n : Nat) (R : List Int) : List Int := (nums n).filter fun i => decide (i ∉ R)
theorem mem_rest {n : Nat} {R : List Int} {i : Int} : i ∈ rest n R ↔ 0 ≤ i ∧ i < n ∧ i ∉ R := by
  unfold rest
  rw [List.mem_filter, mem_nums]
  simp [and_assoc]
theorem rest_perm {n : Nat} {R : List Int} (h : R.Nodup ∧ ∀ i ∈ R, 0 ≤ i ∧ i < (n : Int)) : (rest n R ++ R).Perm (nums n) := by
  refine isOrd.perm (n := n) ⟨?_, ?_, ?_⟩
  · have h1 : (rest n R ++ R).Nodup := by
      refine List.nodup_append.2 ⟨(nums_nodup n).filter _, h.1, fun a ha b hb e => ?_⟩
      subst e
      exact (mem_rest.1 ha).2.2 hb
    have h2 : (rest n R ++ R).length ≤ n := short_of_nodup n _ h1 fun i hi => by
      rcases List.mem_append.1 hi with hi | hi
      · exact ⟨(mem_rest.1 hi).1, (mem_rest.1 hi).2.1⟩
      · exact h.2 i hi
    have h3 : (nums n).length ≤ (rest n R ++ R).length := length_le_of_sub (nums_nodup n) fun i hi => by
      by_cases e : i ∈ R
      · exact List.mem_append.2 (.inr e)
      · exact List.mem_append.2 (.inl (mem_rest.2 ⟨(mem_nums.1 hi).1, (mem_nums.1 hi).2, e⟩))
    rw [nums_length] at h3
    omega
  · refine List.nodup_append.2 ⟨(nums_nodup n).filter _, h.1, fun a ha b hb e => ?_⟩
    subst e
    exact (mem_rest.1 ha).2.2 hb
  · intro i hi
    rcases List.mem_append.1 hi with hi | hi
    · exact ⟨(mem_rest.1 hi).1, (mem_rest.1 hi).2.1⟩
    · exact h.2 i hi
/-- How many that are not placed name a. -/
theorem named_rest {n : Nat} {R : List Int} (h : R.Nodup ∧ ∀ i ∈ R, 0 ≤ i ∧ i < (n : Int)) (a : Int) : (named l (nums n) a : Int) - named l R a = named l (rest n R) a := by
  have := named_perm (l := l) (rest_perm h) a
  rw [named_append] at this
  omega
theorem named_free {n : Nat} {R : List Int} (h : R.Nodup ∧ ∀ i ∈ R, 0 ≤ i ∧ i < (n : Int)) (z : Int) (z0 : 0 ≤ z) (z1 : z < n) :
    Free l n R z ↔ z ∉ R ∧ (named l (nums n) z : Int) - named l R z = 0 := by
  rw [named_rest l h]
  constructor
  · rintro ⟨_, _, h3, h4⟩
    refine ⟨h3, ?_⟩
    have : named l (rest n R) z = 0 := named_zero.2 fun i hi => by
      have := mem_rest.1 hi
      exact h4 i this.1 this.2.1 this.2.2
    omega
  · rintro ⟨h3, h4⟩
    have : named l (rest n R) z = 0 := by omega
    exact ⟨z0, z1, h3, fun i i0 i1 i2 => named_zero.1 this i (mem_rest.2 ⟨i0, i1, i2⟩)⟩
theorem works_rest {n : Nat} {R : List Int} (h : R.Nodup ∧ ∀ i ∈ R, 0 ≤ i ∧ i < (n : Int)) : upTo l n R = works l (rest n R) := by
  have := works_perm l (rest_perm h)
  rw [works_append] at this
  unfold upTo
  omega
end
/-- A row of numbers made of a law. -/
def tab (n : Nat) (f : Int → Int) : List Int := (nums n).map f
theorem tab_length (n : Nat) (f : Int → Int) : (tab n f).length = n := by simp [tab, nums_length]
theorem tab_get {n : Nat} {f : Int → Int} {i : Nat} (h : i < n) : (tab n f)[i]? = some (f i) := by
  unfold tab
  rw [List.getElem?_map]
  simp [nums, h]
theorem tab_set {n : Nat} {f : Int → Int} {i : Nat} {x : Int} : (tab n f).set i x = tab n fun z => if z = (i : Int) then x else f z := by
  refine List.ext_getElem? fun k => ?_
  by_cases hk : k < n
  · rw [tab_get hk]
    by_cases e : i = k
    · subst e
      rw [List.getElem?_set_self (by rw [tab_length]; exact hk), if_pos rfl]
    · rw [List.getElem?_set_ne e, tab_get hk, if_neg (by omega)]
  · rw [List.getElem?_eq_none (by rw [List.length_set, tab_length]; omega), List.getElem?_eq_none (by rw [tab_length]; omega)]
theorem tab_congr {n : Nat} {f g : Int → Int} (h : ∀ z : Int, 0 ≤ z → z < n → f z = g z) : tab n f = tab n g := by
  unfold tab
  refine List.map_congr_left fun z hz => ?_
  have := mem_nums.1 hz
  exact h z this.1 this.2
theorem tab_zero (n : Nat) : List.replicate n (0 : Int) = tab n fun _ => 0 := by
  refine List.ext_getElem? fun k => ?_
  by_cases hk : k < n
  · rw [tab_get hk]; simp [hk]
  · rw [List.getElem?_eq_none (by simp; omega), List.getElem?_eq_none (by rw [tab_length]; omega)]
end Go.Proofs.Ytnfcigbiebbjdaa
namespace Go.Proofs.Ytnfcigbiebbjdaa
section
variable (l : List Jb)
def wsum (t : Int) : List Int → Int
  | [] => 0
  | i :: r => (jat l i).wt * (t + (jat l i).work) + wsum (t + (jat l i).work) r
/-- As a loop computes it. -/
def wsumA (t m : Int) : List Int → Int
  | [] => m
  | i :: r => wsumA (t + (jat l i).work) (m + (t + (jat l i).work) * (jat l i).wt) r
theorem wsumA_eq : ∀ (o : List Int) (t m : Int), wsumA l t m o = m + wsum l t o
  | [], t, m => by simp [wsumA, wsum]
  | i :: r, t, m => by
    simp only [wsumA, wsum]
    rw [wsumA_eq r, Int.mul_comm]
    omega
/-- Is a job to be done ahead of another one? -/
def smallB (a b : Jb) : Bool := if a.wt = 0 ∨ b.wt = 0 then decide (0 < a.wt ∧ b.wt = 0) else decide (a.work * b.wt < b.work * a.wt)
theorem small_prod (hf : Fair l) {b s : Int} (h : smallB (jat l s) (jat l b) = false) : (jat l b).work * (jat l s).wt ≤ (jat l s).work * (jat l b).wt := by
  have h1 := hf b
  have h2 := hf s
  unfold smallB at h
  split at h
  · rename_i hz
    rw [decide_eq_false_iff_not] at h
    rcases Int.lt_or_le 0 (jat l s).wt with hs | hs
    · have hb : (jat l b).wt ≠ 0 := fun e => h ⟨hs, e⟩
      omega
    · have : (jat l s).wt = 0 := by omega
      rw [this, Int.mul_zero]
      exact Int.mul_nonneg h2.1 h1.2
  · rw [decide_eq_false_iff_not] at h
    omega
theorem wsum_front : ∀ (X Y : List Int) (t b : Int), (∀ s ∈ X, (jat l b).work * (jat l s).wt ≤ (jat l s).work * (jat l b).wt) → wsum l t (b :: (X ++ Y)) ≤ wsum l t (X ++ b :: Y)
  | [], _, _, _, _ => Int.le_refl _
  | s :: X, Y, t, b, h => by
    have ih := wsum_front X Y (t + (jat l s).work) b fun x hx => h x (by simp [hx])
    have hs := h s (by simp)
    simp only [List.cons_append, wsum] at ih ⊢
    rw [show t + (jat l b).work + (jat l s).work = t + (jat l s).work + (jat l b).work by omega]
    generalize wsum l (t + (jat l s).work + (jat l b).work) (X ++ Y) = c at *
    generalize wsum l (t + (jat l s).work) (X ++ b :: Y) = d at *
    have e1 : (jat l b).wt * (t + (jat l b).work) = (jat l b).wt * t + (jat l b).wt * (jat l b).work := Int.mul_add _ _ _
    have e2 : (jat l s).wt * (t + (jat l s).work + (jat l b).work) = (jat l s).wt * (t + (jat l s).work) + (jat l s).wt * (jat l b).work := Int.mul_add _ _ _
    have e3 : (jat l b).wt * (t + (jat l s).work + (jat l b).work) = (jat l b).wt * t + (jat l b).wt * (jat l s).work + (jat l b).wt * (jat l b).work := by rw [Int.mul_add, Int.mul_add]
    rw [Int.mul_comm (jat l b).work, Int.mul_comm (jat l s).work] at hs
    omega
/-- **An order by rising work over weight has the least weighted sum.** -/
theorem smith_least (hf : Fair l) : ∀ (o m : List Int) (t : Int), o.Pairwise (fun x y => smallB (jat l y) (jat l x) = false) → m.Perm o → wsum l t o ≤ wsum l t m
  | [], m, t, _, hp => by
    have := hp.length_eq
    obtain rfl : m = [] := List.eq_nil_of_length_eq_zero (by simpa using this)
    exact Int.le_refl _
  | b :: o, m, t, h, hp => by
    have hb : b ∈ m := hp.mem_iff.2 (by simp)
    obtain ⟨X, Y, rfl⟩ := List.append_of_mem hb
    have hXY : (X ++ Y).Perm o := by
      have : (X ++ b :: Y).Perm (b :: (X ++ Y)) := List.perm_middle
      exact List.Perm.cons_inv (this.symm.trans hp)
    have h1 := wsum_front l X Y t b fun s hs => small_prod l hf ((List.pairwise_cons.1 h).1 s (hXY.mem_iff.1 (by simp [hs])))
    have h2 := smith_least hf o (X ++ Y) (t + (jat l b).work) (List.pairwise_cons.1 h).2 hXY
    simp only [wsum] at h1 ⊢
    omega
end
end Go.Proofs.Ytnfcigbiebbjdaa
namespace Go.Proofs.Ytnfcigbiebbjdaa
def iat (l : List Int) (i : Int) : Int := l.getD i.toNat 0
section
variable (a b : List Int)
/-- When the last one is done on the second bench, the first bench being free from t on, the second from u on. -/
def lenF (t u : Int) : List Int → Int
  | [] => u
  | i :: r => lenF (t + iat a i) (max (t + iat a i) u + iat b i) r
theorem lenF_mono : ∀ (o : List Int) (t u v : Int), u ≤ v → lenF a b t u o ≤ lenF a b t v o
  | [], _, _, _, h => h
  | i :: r, t, u, v, h => lenF_mono r _ _ _ (by omega)
theorem lenF_append : ∀ (o p : List Int) (t u : Int), ∃ t', lenF a b t u (o ++ p) = lenF a b t' (lenF a b t u o) p ∧ ∀ v, lenF a b t v (o ++ p) = lenF a b t' (lenF a b t v o) p
  | [], p, t, u => ⟨t, rfl, fun _ => rfl⟩
  | i :: r, p, t, u => by
    obtain ⟨t', h1, h2⟩ := lenF_append r p (t + iat a i) (max (t + iat a i) u + iat b i)
    exact ⟨t', h1, fun v => h2 _⟩
/-- Is j to be done no later than i? -/
def Before (j i : Int) : Prop := min (iat a j) (iat b i) ≤ min (iat a i) (iat b j)
theorem len_swap (t u j i : Int) (r : List Int) (h : Before a b j i) : lenF a b t u (j :: i :: r) ≤ lenF a b t u (i :: j :: r) := by
  unfold Before at h
  simp only [lenF]
  rw [show t + iat a j + iat a i = t + iat a i + iat a j by omega]
  exact lenF_mono a b r _ _ _ (by omega)
theorem len_front : ∀ (X Y : List Int) (t u j : Int), (∀ i ∈ X, Before a b j i) → lenF a b t u (j :: (X ++ Y)) ≤ lenF a b t u (X ++ j :: Y)
  | [], _, _, _, _, _ => Int.le_refl _
  | i :: X, Y, t, u, j, h => by
    have ih := len_front X Y (t + iat a i) (max (t + iat a i) u + iat b i) j fun x hx => h x (by simp [hx])
    exact Int.le_trans (len_swap a b t u j i (X ++ Y) (h i (by simp))) ih
/-- **Johnson's order is done the earliest.** -/
theorem johnson_least : ∀ (o m : List Int) (t u : Int), o.Pairwise (Before a b) → m.Perm o → lenF a b t u o ≤ lenF a b t u m
  | [], m, t, u, _, hp => by
    have := hp.length_eq
    obtain rfl : m = [] := List.eq_nil_of_length_eq_zero (by simpa using this)
    exact Int.le_refl _
  | j :: o, m, t, u, h, hp => by
    have hb : j ∈ m := hp.mem_iff.2 (by simp)
    obtain ⟨X, Y, rfl⟩ := List.append_of_mem hb
    have hXY : (X ++ Y).Perm o := List.Perm.cons_inv ((List.perm_middle (a := j) (l₁ := X) (l₂ := Y)).symm.trans hp)
    have h1 := len_front a b X Y t u j fun s hs => (List.pairwise_cons.1 h).1 s (hXY.mem_iff.1 (by simp [hs]))
    have h2 := johnson_least o (X ++ Y) (t + iat a j) (max (t + iat a j) u + iat b j) (List.pairwise_cons.1 h).2 hXY
    simp only [lenF] at h1 ⊢
    omega
/-- Johnson's rule: the early ones by rising first time, then the others by falling second time. -/
def johnB (j i : Int) : Prop :=
  if iat a j < iat b j then (iat a i < iat b i → iat a j ≤ iat a i) else ¬ iat a i < iat b i ∧ iat b i ≤ iat b j
theorem john_before {j i : Int} (h : johnB a b j i) : Before a b j i := by
  unfold johnB at h
  unfold Before
  split at h
  · by_cases e : iat a i < iat b i
    · have := h e; omega
    · omega
  · omega
/-! Turned round. -/
def sums : List Int → Int
  | [] => 0
  | i :: r => iat b i + sums r
/-- From the front. -/
def front : List Int → Int
  | [] => 0
  | i :: r => max (iat a i + iat b i + sums b r) (iat a i + front r)
theorem front_sums (ha : ∀ i, 0 ≤ iat a i) : ∀ o : List Int, sums b o ≤ front a b o
  | [] => Int.le_refl _
  | i :: r => by have := ha i; simp only [sums, front]; omega
theorem lenF_front (ha : ∀ i, 0 ≤ iat a i) (hb : ∀ i, 0 ≤ iat b i) : ∀ (o : List Int) (t u : Int), lenF a b t u o = if o = [] then u else max (u + sums b o) (t + front a b o)
  | [], t, u => rfl
  | i :: r, t, u => by
    have h1 := ha i
    have h2 := hb i
    rw [if_neg (by simp)]
    simp only [lenF, sums, front]
    rw [lenF_front ha hb r]
    split
    · rename_i e
      subst e
      simp only [sums, front]
      omega
    · have := front_sums a b ha r
      omega
end
theorem sums_append (b : List Int) : ∀ o p : List Int, sums b (o ++ p) = sums b o + sums b p
  | [], p => by simp [sums]
  | i :: r, p => by simp only [List.cons_append, sums, sums_append b r p]; omega
theorem sums_reverse (b : List Int) : ∀ o : List Int, sums b o.reverse = sums b o
  | [] => rfl
  | i :: r => by rw [List.reverse_cons, sums_append, sums_reverse b r]; simp only [sums]; omega
theorem lenF_last (a b : List Int) : ∀ (o : List Int) (t u i : Int), lenF a b t u (o ++ [i]) = max (t + sums a o + iat a i) (lenF a b t u o) + iat b i
  | [], t, u, i => by simp only [List.nil_append, lenF, sums]; omega
  | j :: r, t, u, i => by
    simp only [List.cons_append, lenF, sums]
    rw [lenF_last a b r]
    rw [show t + iat a j + sums a r + iat a i = t + (iat a j + sums a r) + iat a i by omega]
theorem lenF_round (a b : List Int) (ha : ∀ i, 0 ≤ iat a i) (hb : ∀ i, 0 ≤ iat b i) : ∀ o : List Int, lenF a b 0 0 o.reverse = front b a o
  | [] => rfl
  | i :: r => by
    rw [List.reverse_cons, lenF_last, lenF_round a b ha hb r, sums_reverse]
    simp only [front]
    omega
/-- **Turned round, with the benches exchanged, an order takes as long.** -/
theorem len_round (a b : List Int) (ha : ∀ i, 0 ≤ iat a i) (hb : ∀ i, 0 ≤ iat b i) (o : List Int) : lenF a b 0 0 o.reverse = lenF b a 0 0 o := by
  rw [lenF_round a b ha hb, lenF_front b a hb ha]
  have := front_sums b a hb o
  split
  · rename_i e; subst e; rfl
  · omega
end Go.Proofs.Ytnfcigbiebbjdaa
namespace Go.Proofs.Ytnfcigbiebbjdaa

/-- A total order that a comparison agrees with on what came earlier (x) and later (y). -/
structure TotLe (le : Int → Int → Prop) : Prop where
  total : ∀ x y, le x y ∨ le y x
  trans : ∀ x y z, le x y → le y z → le x z

section
variable {le : Int → Int → Prop} (T : TotLe le)
/-- x has come to stand behind S1 and ahead of S2. -/
theorem ins_sorted {S1 S2 : List Int} {x : Int} (h : (S1 ++ S2).Pairwise le) (h2 : ∀ s ∈ S2, le x s) (h1 : ∀ s ∈ S1, le s x) : (S1 ++ x :: S2).Pairwise le := by
  rw [List.pairwise_append] at h ⊢
  refine ⟨h.1, List.pairwise_cons.2 ⟨h2, h.2.1⟩, fun a ha b hb => ?_⟩
  rcases List.mem_cons.1 hb with rfl | hb
  · exact h1 a ha
  · exact h.2.2 a ha b hb
include T in
/-- All of a sorted list are before x if the last one is. -/
theorem all_before {S : List Int} {s x : Int} (h : (S ++ [s]).Pairwise le) (hs : le s x) : ∀ a ∈ S ++ [s], le a x := fun a ha => by
  rcases List.mem_append.1 ha with ha | ha
  · exact T.trans a s x ((List.pairwise_append.1 h).2.2 a ha s (by simp)) hs
  · obtain rfl : a = s := by simpa using ha
    exact hs
include T in
theorem all_behind {S : List Int} {s x : Int} (h : (s :: S).Pairwise le) (hs : le x s) : ∀ a ∈ s :: S, le x a := fun a ha => by
  rcases List.mem_cons.1 ha with rfl | ha
  · exact hs
  · exact T.trans x s a hs ((List.pairwise_cons.1 h).1 a ha)
/-- Two runs: each is cut so that the first parts come before the second ones. -/
theorem merge_cut {A1 A2 B1 B2 C1 C2 : List Int} (hA : (A1 ++ A2).Pairwise le) (hB : (B1 ++ B2).Pairwise le) (h1 : ∀ a ∈ A1, ∀ b ∈ B2, le a b) (h2 : ∀ b ∈ B1, ∀ a ∈ A2, le b a)
    (p1 : C1.Perm (A1 ++ B1)) (p2 : C2.Perm (A2 ++ B2)) (s1 : C1.Pairwise le) (s2 : C2.Pairwise le) : (C1 ++ C2).Pairwise le ∧ (C1 ++ C2).Perm ((A1 ++ A2) ++ (B1 ++ B2)) := by
  constructor
  · refine List.pairwise_append.2 ⟨s1, s2, fun x hx y hy => ?_⟩
    have hx' := p1.mem_iff.1 hx
    have hy' := p2.mem_iff.1 hy
    rcases List.mem_append.1 hx' with a | b <;> rcases List.mem_append.1 hy' with c | d
    · exact (List.pairwise_append.1 hA).2.2 x a y c
    · exact h1 x a y d
    · exact h2 x b y c
    · exact (List.pairwise_append.1 hB).2.2 x b y d
  · refine (p1.append p2).trans ?_
    rw [List.append_assoc, List.append_assoc]
    refine List.Perm.append_left A1 ?_
    rw [← List.append_assoc, ← List.append_assoc]
    exact List.Perm.append_right B2 List.perm_append_comm
end
/-- Two neighbours exchanged. -/
theorem swap_next (P Q : List Int) (s x : Int) : ((P ++ s :: x :: Q).set P.length x).set (P.length + 1) s = P ++ x :: s :: Q := by
  rw [List.set_append_right _ _ (Nat.le_refl _), Nat.sub_self, List.set_cons_zero, List.set_append_right _ _ (by omega), show P.length + 1 - P.length = 1 by omega]
  rfl
theorem at_mid (P Q : List Int) (x : Int) : (P ++ x :: Q)[P.length]? = some x := by simp
theorem at_mid1 (P Q : List Int) (s x : Int) : (P ++ s :: x :: Q)[P.length + 1]? = some x := by
  rw [List.getElem?_append_right (by omega), show P.length + 1 - P.length = 1 by omega]
  rfl
end Go.Proofs.Ytnfcigbiebbjdaa
namespace Go.Proofs.Ytnfcigbiebbjdaa

structure Swo (cf : Int → Int → Int) : Prop where
  asymm : ∀ x y, cf x y < 0 → ¬ cf y x < 0
  neg : ∀ x y z, ¬ cf x y < 0 → ¬ cf y z < 0 → ¬ cf x z < 0
/-- By the comparison, and where it tells nothing by the numbers. -/
def leOf (cf : Int → Int → Int) (x y : Int) : Prop := ¬ cf y x < 0 ∧ (cf x y < 0 ∨ x ≤ y)
section
variable {cf : Int → Int → Int} (S : Swo cf)
include S
theorem Swo.tot : TotLe (leOf cf) where
  total x y := by
    unfold leOf
    have h1 := S.asymm x y
    have h2 := S.asymm y x
    by_cases a : cf x y < 0
    · exact .inl ⟨h1 a, .inl a⟩
    · by_cases b : cf y x < 0
      · exact .inr ⟨a, .inl b⟩
      · rcases Int.le_total x y with h | h
        · exact .inl ⟨b, .inr h⟩
        · exact .inr ⟨a, .inr h⟩
  trans x y z := by
    rintro ⟨a1, a2⟩ ⟨b1, b2⟩
    refine ⟨S.neg z y x b1 a1, ?_⟩
    by_cases h : cf x z < 0
    · exact .inl h
    · right
      -- then none of the two is told apart from y
      have h1 : ¬ cf x y < 0 := S.neg x z y h b1
      have h2 : ¬ cf y z < 0 := S.neg y x z a1 h
      rcases a2 with a2 | a2
      · exact absurd a2 h1
      · rcases b2 with b2 | b2
        · exact absurd b2 h2
        · omega
end
/-- What comes earlier in a rising list, and what comes later. -/
theorem Swo.agree {cf : Int → Int → Int} {x y : Int} (h : x ≤ y) : cf y x < 0 ↔ ¬ leOf cf x y := by
  unfold leOf
  constructor
  · exact fun c k => k.1 c
  · intro k
    by_cases c : cf y x < 0
    · exact c
    · exact absurd ⟨c, .inr h⟩ k
def cmpI (x y : Int) : Int := if x < y then -1 else if y < x then 1 else 0
theorem cmpI_neg {x y : Int} : cmpI x y < 0 ↔ x < y := by
  unfold cmpI
  by_cases h : x < y
  · rw [if_pos h]; omega
  · rw [if_neg h]; split <;> omega
section
variable (l : List Jb)
def smithC (x y : Int) : Int :=
  if (jat l x).wt = 0 ∨ (jat l y).wt = 0 then cmpI (min 1 (jat l y).wt) (min 1 (jat l x).wt) else cmpI ((jat l x).work * (jat l y).wt) ((jat l y).work * (jat l x).wt)
theorem smithC_neg (hf : Fair l) (x y : Int) : smithC l x y < 0 ↔ smallB (jat l x) (jat l y) = true := by
  have h1 := (hf x).2
  have h2 := (hf y).2
  unfold smithC smallB
  split
  · rw [cmpI_neg, decide_eq_true_iff]; omega
  · rw [cmpI_neg, decide_eq_true_iff]
theorem smith_swo (hf : Fair l) : Swo (smithC l) where
  asymm x y := by
    rw [smithC_neg l hf, smithC_neg l hf]
    unfold smallB
    split <;> split <;> simp only [decide_eq_true_iff] <;> omega
  neg x y z := by
    rw [smithC_neg l hf, smithC_neg l hf, smithC_neg l hf, Bool.not_eq_true, Bool.not_eq_true, Bool.not_eq_true]
    intro h1 h2
    have fx := hf x
    have fy := hf y
    have fz := hf z
    unfold smallB at *
    by_cases cx : (jat l x).wt = 0
    · rw [if_pos (.inl cx), decide_eq_false_iff_not]; omega
    by_cases cz : (jat l z).wt = 0
    · rw [if_pos (.inr cz), decide_eq_false_iff_not]
      rw [if_pos (.inr cz), decide_eq_false_iff_not] at h2
      by_cases cy : (jat l y).wt = 0
      · rw [if_pos (.inr cy), decide_eq_false_iff_not] at h1; omega
      · omega
    by_cases cy : (jat l y).wt = 0
    · rw [if_pos (.inr cy), decide_eq_false_iff_not] at h1; omega
    rw [if_neg (by omega), decide_eq_false_iff_not] at *
    generalize (jat l x).work = px at *
    generalize (jat l y).work = py at *
    generalize (jat l z).work = pz at *
    generalize (jat l x).wt = wx at *
    generalize (jat l y).wt = wy at *
    generalize (jat l z).wt = wz at *
    intro h3
    have e1 : py * wx * wz ≤ px * wy * wz := Int.mul_le_mul_of_nonneg_right (by omega) fz.2
    have e2 : pz * wy * wx ≤ py * wz * wx := Int.mul_le_mul_of_nonneg_right (by omega) fx.2
    have e3 : wy * (px * wz) < wy * (pz * wx) := Int.mul_lt_mul_of_pos_left h3 (by omega)
    have r1 : py * wx * wz = py * wz * wx := by rw [Int.mul_assoc, Int.mul_comm wx wz, ← Int.mul_assoc]
    have r2 : px * wy * wz = wy * (px * wz) := by rw [Int.mul_comm px wy, Int.mul_assoc]
    have r3 : pz * wy * wx = wy * (pz * wx) := by rw [Int.mul_comm pz wy, Int.mul_assoc]
    omega
end
section
variable (a b : List Int)
def johnC (x y : Int) : Int :=
  if iat a x < iat b x ∧ ¬ iat a y < iat b y then -1 else if iat a y < iat b y ∧ ¬ iat a x < iat b x then 1
  else if iat a x < iat b x then cmpI (iat a x) (iat a y) else cmpI (iat b y) (iat b x)
theorem johnC_neg (x y : Int) : johnC a b x y < 0 ↔ (iat a x < iat b x ∧ ¬ iat a y < iat b y) ∨ (iat a x < iat b x ∧ iat a y < iat b y ∧ iat a x < iat a y) ∨ (¬ iat a x < iat b x ∧ ¬ iat a y < iat b y ∧ iat b y < iat b x) := by
  unfold johnC
  split
  · simp; omega
  split
  · simp; omega
  split <;> rw [cmpI_neg] <;> omega
theorem john_swo : Swo (johnC a b) where
  asymm x y := by rw [johnC_neg, johnC_neg]; omega
  neg x y z := by rw [johnC_neg, johnC_neg, johnC_neg]; omega
theorem john_le {x y : Int} (h : leOf (johnC a b) x y) : Before a b x y := by
  have := h.1
  rw [johnC_neg] at this
  unfold Before
  omega
end
end Go.Proofs.Ytnfcigbiebbjdaa
namespace Go.Proofs.Ytnfcigbiebbjdaa

/-- The first t of L are those of d, in some order. -/
def Prm (d L : List Int) (t : Nat) : Prop := (L.take t).Perm (d.take t)
/-- From t on L rises for m numbers. -/
def Srt (le : Int → Int → Prop) (L : List Int) (t m : Nat) : Prop := ((L.drop t).take m).Pairwise le
/-- The first k runs of M are made, the rest is in runs of m. -/
def Level (le : Int → Int → Prop) (d L : List Int) (m M k : Nat) : Prop :=
  L.length = d.length ∧ (∀ j, j ≤ k → Prm d L (M * j)) ∧ (∀ j, j < k → Srt le L (M * j) M) ∧ ∀ i, M * k ≤ m * i → Prm d L (m * i) ∧ Srt le L (m * i) m

theorem take_hi {X Q : List Int} {t : Nat} (h : X.length ≤ t) : (X ++ Q).take t = X ++ Q.take (t - X.length) := by
  rw [List.take_append, List.take_of_length_le h]
theorem drop_hi {X Q : List Int} {t : Nat} (h : X.length ≤ t) : (X ++ Q).drop t = Q.drop (t - X.length) := by
  rw [List.drop_append, List.drop_of_length_le h, List.nil_append]
theorem take_turn {P S S' Q : List Int} {t : Nat} (hS : S'.Perm S) (ht : t ≤ P.length ∨ P.length + S.length ≤ t) : ((P ++ S' ++ Q).take t).Perm ((P ++ S ++ Q).take t) := by
  have hl := hS.length_eq
  rcases ht with h | h
  · rw [List.append_assoc, List.append_assoc, List.take_append_of_le_length h, List.take_append_of_le_length h]
  · rw [take_hi (X := P ++ S') (by rw [List.length_append]; omega), take_hi (X := P ++ S) (by rw [List.length_append]; omega), List.length_append, List.length_append, hl]
    exact (hS.append_left P).append_right _
theorem drop_turn {P S S' Q : List Int} {t : Nat} (hS : S'.Perm S) (ht : P.length + S.length ≤ t) : (P ++ S' ++ Q).drop t = (P ++ S ++ Q).drop t := by
  have hl := hS.length_eq
  rw [drop_hi (X := P ++ S') (by rw [List.length_append]; omega), drop_hi (X := P ++ S) (by rw [List.length_append]; omega), List.length_append, List.length_append, hl]
theorem seg_turn {P S S' Q : List Int} {t m : Nat} (ht : t + m ≤ P.length) : ((P ++ S' ++ Q).drop t).take m = ((P ++ S ++ Q).drop t).take m := by
  rw [List.append_assoc, List.append_assoc, List.drop_append_of_le_length (by omega), List.drop_append_of_le_length (by omega), List.take_append_of_le_length (by rw [List.length_drop]; omega), List.take_append_of_le_length (by rw [List.length_drop]; omega)]

theorem Level.step {le : Int → Int → Prop} {d P S S' Q : List Int} {m M k c : Nat} (h : Level le d (P ++ S ++ Q) m M k) (hM : M = m * c) (hP : P.length = M * k) (hS : S.length = M ∨ (S.length ≤ M ∧ Q = [])) (hp : S'.Perm S) (hs : S'.Pairwise le) :
    Level le d (P ++ S' ++ Q) m M (k + 1) := by
  obtain ⟨h0, h1, h2, h3⟩ := h
  have hl := hp.length_eq
  have hMk : M * (k + 1) = M * k + M := Nat.mul_succ M k
  have hlen : (P ++ S' ++ Q).length = (P ++ S ++ Q).length := by simp only [List.length_append]; omega
  refine ⟨by omega, fun j hj => ?_, fun j hj => ?_, fun i hi => ?_⟩
  · rcases Nat.lt_or_ge k j with hjk | hjk
    · obtain rfl : j = k + 1 := by omega
      have e : M * (k + 1) = m * (c * (k + 1)) := by rw [hM, Nat.mul_assoc]
      have h4 : Prm d (P ++ S ++ Q) (M * (k + 1)) := by rw [e]; exact (h3 _ (by rw [← e]; omega)).1
      exact (take_turn hp (.inr (by rcases hS with h | h <;> omega))).trans h4
    · have hle : M * j ≤ M * k := Nat.mul_le_mul_left M hjk
      exact (take_turn hp (.inl (by omega))).trans (h1 j hjk)
  · rcases Nat.lt_or_ge j k with hjk | hjk
    · have hle : M * (j + 1) ≤ M * k := Nat.mul_le_mul_left M hjk
      rw [Nat.mul_succ] at hle
      unfold Srt
      rw [seg_turn (S := S) (by omega)]
      exact h2 j hjk
    · obtain rfl : j = k := by omega
      unfold Srt
      rw [← hP, List.append_assoc, List.drop_append_of_le_length (Nat.le_refl _), List.drop_length, List.nil_append]
      rcases hS with h | ⟨h, rfl⟩
      · rw [List.take_append_of_le_length (by omega), List.take_of_length_le (by omega)]
        exact hs
      · rw [List.append_nil, List.take_of_length_le (by omega)]
        exact hs
  · have hge : M * k ≤ m * i := by omega
    obtain ⟨h4, h5⟩ := h3 i hge
    have hend : P.length + S.length ≤ m * i := by rcases hS with h | h <;> omega
    refine ⟨(take_turn hp (.inr hend)).trans h4, ?_⟩
    unfold Srt
    rw [drop_turn hp hend]
    exact h5
/-- All runs are made: they are the runs of the next level. -/
theorem Level.next {le : Int → Int → Prop} {d L : List Int} {m M k : Nat} (M' : Nat) (h : Level le d L m M k) (hk : d.length ≤ M * k) : Level le d L M M' 0 := by
  obtain ⟨h0, h1, h2, _⟩ := h
  have hw : L.Perm d := by
    have := h1 k (Nat.le_refl _)
    unfold Prm at this
    rwa [List.take_of_length_le (by omega), List.take_of_length_le (by omega)] at this
  refine ⟨h0, fun j hj => ?_, fun j hj => by omega, fun i _ => ?_⟩
  · obtain rfl : j = 0 := by omega
    unfold Prm
    simp
  · rcases Nat.lt_or_ge i k with hi | hi
    · exact ⟨h1 i (by omega), h2 i hi⟩
    · have hge : M * k ≤ M * i := Nat.mul_le_mul_left M hi
      constructor
      · unfold Prm
        rw [List.take_of_length_le (by omega), List.take_of_length_le (by omega)]
        exact hw
      · unfold Srt
        rw [List.drop_of_length_le (by omega)]
        simp
theorem Level.first {le : Int → Int → Prop} (d : List Int) (M : Nat) : Level le d d 1 M 0 := by
  refine ⟨rfl, fun j _ => List.Perm.refl _, fun j hj => by omega, fun i _ => ⟨List.Perm.refl _, ?_⟩⟩
  unfold Srt
  cases h : d.drop (1 * i) with
  | nil => simp
  | cons x r => simp
theorem Level.done {le : Int → Int → Prop} {d L : List Int} {m M : Nat} (h : Level le d L m M 0) (hn : d.length ≤ m) : L.Perm d ∧ L.Pairwise le := by
  obtain ⟨h0, _, _, h3⟩ := h
  have a := (h3 0 (by omega)).2
  have b := (h3 1 (by omega)).1
  unfold Srt at a
  unfold Prm at b
  rw [Nat.mul_zero, List.drop_zero, List.take_of_length_le (by omega)] at a
  rw [Nat.mul_one, List.take_of_length_le (by omega), List.take_of_length_le (by omega)] at b
  exact ⟨b, a⟩
theorem Level.perm {le : Int → Int → Prop} {d L : List Int} {m M k c : Nat} (h : Level le d L m M k) (hM : M = m * c) (hm : 0 < m) : L.Perm d := by
  obtain ⟨h0, _, _, h3⟩ := h
  have e : M * k = m * (c * k) := by rw [hM, Nat.mul_assoc]
  have h1 : m * (c * k) ≤ m * (c * k + d.length) := Nat.mul_le_mul_left m (by omega)
  have h2 : m * d.length ≤ m * (c * k + d.length) := Nat.mul_le_mul_left m (by omega)
  have h4 : 1 * d.length ≤ m * d.length := Nat.mul_le_mul_right _ hm
  have h5 := (h3 (c * k + d.length) (by omega)).1
  unfold Prm at h5
  rwa [List.take_of_length_le (by omega), List.take_of_length_le (by omega)] at h5
/-- What comes ahead of a cut and what comes behind it. -/
theorem prm_cross {d L : List Int} {t : Nat} {R : Int → Int → Prop} (hd : d.Pairwise R) (hp : Prm d L t) (hw : L.Perm d) : ∀ x ∈ L.take t, ∀ y ∈ L.drop t, R x y := by
  intro x hx y hy
  have e : d = d.take t ++ d.drop t := (List.take_append_drop t d).symm
  rw [e] at hd
  have h2 : (L.drop t).Perm (d.drop t) := by
    have h3 : (L.take t ++ L.drop t).Perm (d.take t ++ d.drop t) := by rw [List.take_append_drop, List.take_append_drop]; exact hw
    exact (List.perm_append_left_iff (d.take t)).1 ((hp.symm.append_right _).trans h3)
  exact (List.pairwise_append.1 hd).2.2 x (hp.mem_iff.1 hx) y (h2.mem_iff.1 hy)
end Go.Proofs.Ytnfcigbiebbjdaa
namespace Go.Proofs.Ytnfcigbiebbjdaa
open Go.RowKit

theorem bcell {W w1 : World} (hb : Below W.heap.size W w1) : (∀ b o, b < W.heap.size → w1.cell? ⟨b, o, none⟩ = W.cell? ⟨b, o, none⟩) ∧ (∀ b o, b < W.heap.size → w1.frozen? ⟨b, o, none⟩ = W.frozen? ⟨b, o, none⟩) :=
  ⟨fun b o h => hb.cell (p := ⟨b, o, none⟩) h, fun b o h => hb.frozen (p := ⟨b, o, none⟩) h⟩

/-- Block g is just these cells. -/
def Blk (w : World) (g : Nat) (t : TypeId) (cs : Array Value) : Prop := w.heap[g]? = some (.cells cs t (0, 0))
section
variable {w w' : World} {g : Nat} {t : TypeId} {cs : Array Value}
theorem Blk.lt (h : Blk w g t cs) : g < w.heap.size := by
  rcases Nat.lt_or_ge g w.heap.size with hlt | hge
  · exact hlt
  · unfold Blk at h; rw [Array.getElem?_eq_none hge] at h; cases h
theorem Blk.cell (h : Blk w g t cs) (i : Nat) : w.cell? ⟨g, i, none⟩ = cs[i]? := cell_of_row w g i cs t (0, 0) h
theorem Blk.frozen (h : Blk w g t cs) (i : Nat) : w.frozen? ⟨g, i, none⟩ = false := by
  unfold Blk at h
  simp [World.frozen?, h]
theorem Blk.new (w : World) (t : TypeId) (cs : Array Value) : Blk (w.alloc (.cells cs t)) w.heap.size t cs := heap_alloc_new w _
theorem Blk.drew (h : Blk w g t cs) : Blk w.drew g t cs := h
theorem Blk.drewN (h : Blk w g t cs) (n : Nat) : Blk (w.drewN n) g t cs := h
theorem Blk.alloc (h : Blk w g t cs) (o : Obj) : Blk (w.alloc o) g t cs := (Below.heap_alloc w o g h.lt).trans h
theorem Blk.set_ (h : Blk w g t cs) (i : Nat) (u : Value) : Blk (w.setCell ⟨g, i, none⟩ u) g t (cs.setIfInBounds i u) := by
  unfold Blk at h ⊢
  simp [World.setCell, Array.getElem?_modify, h]
theorem Blk.far (h : Blk w g t cs) {p : Addr} (hp : g ≠ p.block) (u : Value) : Blk (w.setCell p u) g t cs := (Below.heap_setCell w p u g hp).trans h
theorem Blk.below {B : Nat} (h : Blk w g t cs) (hb : Below B w w') (hg : g < B) : Blk w' g t cs := (hb.block g hg).trans h
theorem Blk.later (h : Blk w g t cs) (hb : Below w.heap.size w w') : Blk w' g t cs := h.below hb h.lt
theorem Blk.grown {row : Option Nat} (h : Blk w g t cs) (hb : w.grownBy w' row) (hg : some g ≠ row) : Blk w' g t cs := (hb.block g h.lt hg).trans h
theorem Blk.ne_ {g' : Nat} {t' : TypeId} {cs' : Array Value} (h : Blk w g t cs) (h' : Blk w g' t' cs') (hne : t ≠ t') : g ≠ g' := by
  rintro rfl
  unfold Blk at h h'
  rw [h] at h'
  injection h' with h'
  injection h' with _ ht
  exact hne ht
end

/-- A world that is, below the heap's end, as w is. -/
def Later (w : World) : Type := { x : World // Below w.heap.size w x }
instance (w : World) : Inhabited (Later w) := ⟨⟨w, Below.refl _ w⟩⟩

section
variable {P : Program}

theorem wp_region_later {id : Nat} {Q : Exit → Act → World → Prop} {a : Act} {w : World} {l : List Oper} (hm : P.follows .mixedOrders = true) (hB : Region.lexB .any l.toArray = true)
    (h : wpQuiet P l.toArray (fun w' => ∃ x : Later w, w' = x.val) (fun a' => ∀ w', (∃ x : Later w, w' = x.val) → Q .normal a' w') l a) : (Code.region id l.toArray true).wp P Q a w :=
  wp_region_quiet (C := fun w' => ∃ x : Later w, w' = x.val) hm hB ⟨⟨_, (Below.refl _ w).drew⟩, rfl⟩ (by simpa using h)

/-! A region whose first operations are quiet in a class of worlds, and whose last ones come in one order. -/
section
variable {ops : Array Oper} {md : Region.Mode} {C : World → Prop}
def headQ (P : Program) (md : Region.Mode) (ops : Array Oper) (C : World → Prop) (n : Nat) (L : Array Bool → Act → Prop) : Nat → Array Bool → Act → Prop
  | 0, listed, a => L listed a
  | f + 1, listed, a => Region.ready md ops listed ≠ [] ∧ ∀ i ∈ Region.ready md ops listed, i < n ∧ qOp P ops C i (headQ P md ops C n L f (listed.setIfInBounds i true)) a

theorem any_of_headQ {n g : Nat} {L : Array Bool → Act → Prop} {Q' : Exit → Act → World → Prop} (hL : ∀ listed a w, C w → L listed a → wpAny P md ops Q' g listed a w) :
    ∀ (f : Nat) (listed : Array Bool) (a : Act) (w : World), C w → headQ P md ops C n L f listed a → wpAny P md ops Q' (f + g) listed a w
  | 0, _, _, _, hw, h => by rw [Nat.zero_add]; exact hL _ _ _ hw h
  | f + 1, _, _, _, hw, h => by
    rw [show f + 1 + g = (f + g) + 1 by omega]
    exact ⟨fun h0 => absurd h0 h.1, fun i hi => wpOp_of_qOp hw (fun a' w' hw' h' => any_of_headQ hL f _ a' w' hw' h') (h.2 i hi).2⟩

theorem headQ_first {n i : Nat} {oi : Oper} {v : Value} {L : Array Bool → Act → Prop} (hi : ops[i]? = some oi) (hsel : ∀ (j : Nat) (o : Oper) cs b, ops[j]? = some o → o.op ≠ .select cs b)
    (hs : Region.sinkB md ops n = true) (hc : Region.chainB md ops n = true) (hn : n < ops.size) (hin : i < n)
    (hdone : ∀ listed a, L listed a → ∀ j ∈ Region.ready md ops listed, n ≤ j) :
    ∀ (f : Nat) (listed : Array Bool) (a : Act), HeadInv md ops n listed →
      (∀ j oj, ops[j]? = some oj → j ≠ i → listed.getD j true = false → (∀ e ∈ oj.after, Region.binds md e = true → e.on ≠ i) → oi.apart ops oj = true) →
      i ∈ Region.ready md ops listed → YieldsIn P ops C oi v a →
      headQ P md ops C n L f (listed.setIfInBounds i true) (a.put oi.dst v) → headQ P md ops C n L (f + 1) listed a := by
  intro f
  have low : ∀ listed, HeadInv md ops n listed → i ∈ Region.ready md ops listed → ∀ j ∈ Region.ready md ops listed, j < n := fun listed inv hr j hj => by
    rcases Nat.lt_or_ge j n with h | h
    · exact h
    · exact absurd hj (tail_waits hs hc hn inv _ i rfl hin (mem_ready.1 hr).1 j h)
  induction f with
  | zero =>
    intro listed a inv _ hr hy H
    refine ⟨fun h => (by rw [h] at hr; cases hr), fun j hj => ?_⟩
    have hjn := low listed inv hr j hj
    refine ⟨hjn, ?_⟩
    by_cases hji : j = i
    · subst hji; exact hy.qOp hi H
    · have := hdone _ _ H j (ready_mono hj hji)
      omega
  | succ f ih =>
    intro listed a inv hfree hr hy H
    have hun := (mem_ready.1 hr).1
    refine ⟨fun h => (by rw [h] at hr; cases hr), fun j hj => ?_⟩
    have hjn := low listed inv hr j hj
    refine ⟨hjn, ?_⟩
    by_cases hji : j = i
    · subst hji; exact hy.qOp hi H
    · have h1 := (H.2 j (ready_mono hj hji)).2
      obtain ⟨hjun, oj, hoj, hall⟩ := mem_ready.1 hj
      have hnot : ∀ e ∈ oj.after, Region.binds md e = true → e.on ≠ i := fun e he hb heq => by
        have h1 := hall e he hb
        rw [heq, getD_both hun] at h1
        cases h1
      have h2 := qOp_put hoj (hfree j oj hoj hji hjun hnot) (fun cs b => hsel i oi cs b hi) (fun cs b => hsel j oj cs b hoj) hy h1
      have hfree' : ∀ k ok, ops[k]? = some ok → k ≠ i → (listed.setIfInBounds j true).getD k true = false →
          (∀ e ∈ ok.after, Region.binds md e = true → e.on ≠ i) → oi.apart ops ok = true := fun k ok hk hki hun hno => by
        refine hfree k ok hk hki ?_ hno
        by_cases hjk : j = k
        · subst hjk; exact hjun
        · rw [getD_set_ne true hjk] at hun; exact hun
      refine qOp_mono (fun a' h3 => ih (listed.setIfInBounds j true) a' (inv.set hj hjn) hfree' (ready_mono hr (Ne.symm hji)) h3.1 ?_) h2
      rw [Array.setIfInBounds_comm _ _ hji]
      exact h3.2

theorem headQ_lex {n g : Nat} {Lq : Act → Prop} (hsel : Region.noSelect ops = true) (hs : Region.sinkB md ops n = true) (hc : Region.chainB md ops n = true) (hn : n < ops.size) :
    ∀ (l : List Oper) (k : Nat) (listed : Array Bool) (a : Act), (∀ j, j < l.length → l[j]? = ops[k + j]?) → k + l.length = n → HeadInv md ops n listed →
    Region.lexHead md ops g l.length k listed = true → wpQuiet P ops C Lq l a →
    headQ P md ops C n (fun listed' a' => Region.seqB md ops g n listed' = true ∧ Lq a') l.length listed a
  | [], k, listed, a, _, hk, _, hB, h => by
    have : k = n := by simpa using hk
    subst this
    exact ⟨by simpa [Region.lexHead] using hB, h⟩
  | o :: l, k, listed, a, hl, hk, inv, hB, h => by
    have h0 : ops[k]? = some o := by simpa using (hl 0 (by simp)).symm
    simp only [List.length_cons, Region.lexHead, Bool.and_eq_true] at hB
    obtain ⟨⟨hr, hf⟩, hB'⟩ := hB
    have hkn : k < n := by simp only [List.length_cons] at hk; omega
    have hr' : k ∈ Region.ready md ops listed := by simpa using hr
    have hst : qOp P ops C k (wpQuiet P ops C Lq l) a := by unfold qOp; simp only [h0]; exact h
    obtain ⟨v, hy, hK⟩ := yieldsIn_of_qOp h0 hst
    exact headQ_first h0 (Region.noSelect_spec hsel) hs hc hn hkn (fun listed' a' hL => seqB_ready hL.1) l.length listed a inv (Region.free_spec h0 hf) hr' hy
      (headQ_lex hsel hs hc hn l (k + 1) _ _ (fun j hj => by have := hl (j + 1) (by simp; omega); simpa [Nat.add_assoc, Nat.add_comm 1 j] using this) (by simp only [List.length_cons] at hk; omega) (inv.set hr' hkn) hB' hK)

theorem wp_region_quiet_tail {id : Nat} {Q : Exit → Act → World → Prop} {a : Act} {w : World} {l : List Oper} (n : Nat) (hm : P.follows .mixedOrders = true) (hB : Region.lexTailB .any l.toArray n = true) (hC : C { w with drawn := w.drawn + 1 })
    (h : wpQuiet P l.toArray C (fun a' => ∀ w', C w' → wpList P l.toArray Q (l.drop n) a' w') (l.take n) a) : (Code.region id l.toArray true).wp P Q a w := by
  simp only [Region.lexTailB, Bool.and_eq_true, decide_eq_true_eq] at hB
  obtain ⟨⟨⟨⟨hsel, hn⟩, hs⟩, hc⟩, hlex⟩ := hB
  have hn' : n < l.length := by simpa using hn
  have htl : (l.take n).length = n := by simp; omega
  have hdl : (l.drop n).length = l.toArray.size - n := by simp
  have inv0 : HeadInv .any l.toArray n (Array.replicate l.toArray.size false) :=
    ⟨by simp, fun j oj _ hl => (by rw [getD_replicate_false] at hl; cases hl), fun t _ ht => getD_in (by simpa using ht) (getD_replicate_false _ _)⟩
  have H := headQ_lex (md := .any) (g := l.toArray.size - n) hsel hs hc hn (l.take n) 0 _ a (fun j hj => by
    have hj' : j < n := by rw [htl] at hj; exact hj
    simp [hj']) (by simpa using htl) inv0 (by rw [htl]; exact hlex) h
  refine wp_region_any hm ?_
  have := any_of_headQ (Q' := Q) (g := l.toArray.size - n) (fun listed a' w' hw' hL => by
    have := wpAny_of_seq (md := .any) (Q' := Q) (l.drop n) n listed a' w' (fun j => by simp [List.getElem?_drop]) (by rw [hdl]; exact hL.1) (hL.2 w' hw')
    rwa [hdl] at this) _ _ _ _ hC H
  rw [htl, show n + (l.toArray.size - n) = l.toArray.size by omega] at this
  exact this

theorem wp_region_later_tail {id : Nat} {Q : Exit → Act → World → Prop} {a : Act} {w : World} {l : List Oper} (n : Nat) (hm : P.follows .mixedOrders = true) (hB : Region.lexTailB .any l.toArray n = true)
    (h : wpQuiet P l.toArray (fun w' => ∃ x : Later w, w' = x.val) (fun a' => ∀ w', (∃ x : Later w, w' = x.val) → wpList P l.toArray Q (l.drop n) a' w') (l.take n) a) : (Code.region id l.toArray true).wp P Q a w :=
  wp_region_quiet_tail (C := fun w' => ∃ x : Later w, w' = x.val) n hm hB ⟨⟨_, (Below.refl _ w).drew⟩, rfl⟩ h
end

theorem later_cell {w : World} (x : Later w) (b o : Nat) (h : b < w.heap.size) : x.val.cell? ⟨b, o, none⟩ = w.cell? ⟨b, o, none⟩ := x.property.cell (p := ⟨b, o, none⟩) h
theorem later_frozen {w : World} (x : Later w) (b o : Nat) (h : b < w.heap.size) : x.val.frozen? ⟨b, o, none⟩ = w.frozen? ⟨b, o, none⟩ := x.property.frozen (p := ⟨b, o, none⟩) h

/-- A contract that ends in 'Below', met in a later world. -/
theorem later_call {f : FuncId} {args : Array Value} {w : World} {x : Later w} {v : Value}
    (h : Calls P f args x.val fun e w' => e = .returned v ∧ Below x.val.heap.size x.val w') : Calls P f args x.val fun e w'' => e = .returned v ∧ ∃ y : Later w, w'' = y.val :=
  h.mono fun _ w' ⟨he, hb⟩ => ⟨he, ⟨w', x.property.trans (hb.mono x.property.size)⟩, rfl⟩
theorem later_same {f : FuncId} {args : Array Value} {w : World} {x : Later w} {v : Value}
    (h : Calls P f args x.val fun e w' => e = .returned v ∧ x.val = w') : Calls P f args x.val fun e w'' => e = .returned v ∧ ∃ y : Later w, w'' = y.val :=
  h.mono fun _ _ ⟨he, hb⟩ => ⟨he, x, hb.symm⟩
end
end Go.Proofs.Ytnfcigbiebbjdaa
namespace Go.Proofs.Ytnfcigbiebbjdaa
open Go.RowKit

theorem bodyPost_cell {P : Program} {fn : Func} {R : Ending → World → Prop} {tmps : Array Value} {W : World} (g : Nat) (t : TypeId) (cs : Array Value) (v : Value)
    (hE : Blk W g t cs) (hr : ∀ W' : World, (∀ i, W'.cell? ⟨g, i, none⟩ = cs[i]?) → (results fn tmps).run P W' = .ok v W') (hR : R (.returned v) W) : bodyPost P fn R .ret ⟨tmps, []⟩ W :=
  bodyPost_ret (hr W hE.cell) rfl hR

theorem below_drewN {B : Nat} {a w : World} (h : Below B a w) (n : Nat) : Below B a (w.drewN n) := ⟨h.os, h.tape, h.output, h.size, h.block⟩
theorem only_drewN {a w : World} {row : Option Nat} (h : a.grownBy w row) (n : Nat) : a.grownBy (w.drewN n) row := ⟨h.os, h.tape, h.output, h.size, h.block⟩
theorem only_drew {a w : World} {row : Option Nat} (h : a.grownBy w row) : a.grownBy w.drew row := ⟨h.os, h.tape, h.output, h.size, h.block⟩
theorem only_alloc {a w : World} {row : Option Nat} (h : a.grownBy w row) (o : Obj) : a.grownBy (w.alloc o) row :=
  ⟨h.os, h.tape, h.output, Nat.le_trans h.size (by simp), fun i hi hne => (Below.heap_alloc w o i (Nat.lt_of_lt_of_le hi h.size)).trans (h.block i hi hne)⟩
theorem only_setCell {a w : World} {g : Nat} (h : a.grownBy w (some g)) {p : Addr} (hp : p.block = g ∨ a.heap.size ≤ p.block) (u : Value) : a.grownBy (w.setCell p u) (some g) :=
  ⟨h.os, h.tape, h.output, by simpa [World.setCell] using h.size, fun i hi hne => (Below.heap_setCell w p u i (by
    rintro rfl
    rcases hp with hp | hp
    · exact hne (by rw [hp])
    · omega)).trans (h.block i hi hne)⟩
theorem only_of_below {a w : World} (h : Below a.heap.size a w) (row : Option Nat) : a.grownBy w row := ⟨h.os, h.tape, h.output, h.size, fun i hi _ => h.block i hi⟩
theorem only_trans_below {a w w' : World} {row : Option Nat} (h : a.grownBy w row) (hb : Below w.heap.size w w') : a.grownBy w' row :=
  ⟨hb.os.trans h.os, hb.tape.trans h.tape, hb.output.trans h.output, Nat.le_trans h.size hb.size, fun i hi hn => (hb.block i (Nat.lt_of_lt_of_le hi h.size)).trans (h.block i hi hn)⟩
/-- From B on the block that may have been written. -/
theorem below_of_only {B g : Nat} {a w : World} (h : a.grownBy w (some g)) (hg : B ≤ g) (hB : B ≤ a.heap.size) : Below B a w :=
  ⟨h.os, h.tape, h.output, h.size, fun k hk => h.block k (by omega) (by simp; omega)⟩
end Go.Proofs.Ytnfcigbiebbjdaa
namespace Go.Proofs.Ytnfcigbiebbjdaa
open Go.RowKit

def rowc (l : List Int) : Array Value := (l.map (Value.int .i64)).toArray
theorem rowc_at {l : List Int} {i : Nat} {x : Int} (h : l[i]? = some x) : (rowc l)[i]? = some (.int .i64 x) := by
  unfold rowc
  rw [List.getElem?_toArray, List.getElem?_map, h]
  rfl
theorem rowc_size (l : List Int) : (rowc l).size = l.length := by simp [rowc]
theorem rowc_set (l : List Int) (i : Nat) (x : Int) : (rowc l).setIfInBounds i (.int .i64 x) = rowc (l.set i x) := by
  unfold rowc
  rw [List.setIfInBounds_toArray, List.map_set]
theorem rowc_back (l : List Int) (rest : Array Value) {i : Nat} (h : i < l.length) : (rowc l ++ rest)[i]? = (rowc l)[i]? := Array.getElem?_append_left (by rw [rowc_size]; exact h)
/-- Block R begins with a row. -/
def RowB (w : World) (R : Nat) (l : List Int) : Prop := ∃ rest : Array Value, Blk w R 3 (rowc l ++ rest)
theorem RowB.of {w : World} {R : Nat} {l : List Int} (h : Blk w R 3 (rowc l)) : RowB w R l := ⟨#[], by rw [Array.append_empty]; exact h⟩
theorem RowB.at_ {w : World} {R i : Nat} {l : List Int} {x : Int} (h : RowB w R l) (hx : l[i]? = some x) : w.cell? ⟨R, i, none⟩ = some (.int .i64 x) := by
  obtain ⟨rest, h⟩ := h
  exact (Blk.cell h i).trans ((rowc_back l rest (List.getElem?_eq_some_iff.1 hx).1).trans (rowc_at hx))
theorem RowB.set_ {w : World} {R : Nat} {l : List Int} (h : RowB w R l) (i : Nat) (x : Int) : RowB (w.setCell ⟨R, i, none⟩ (.int .i64 x)) R (l.set i x) := by
  obtain ⟨rest, h⟩ := h
  have h1 := Blk.set_ h i (.int .i64 x)
  by_cases hi : i < l.length
  · rw [Array.setIfInBounds_append_left (by rw [rowc_size]; exact hi), rowc_set] at h1
    exact ⟨rest, h1⟩
  · rw [Array.setIfInBounds_append_right (by rw [rowc_size]; omega)] at h1
    rw [List.set_eq_of_length_le (by omega)]
    exact ⟨_, h1⟩
theorem RowB.later {w w' : World} {R : Nat} {l : List Int} (h : RowB w R l) (hb : Below w.heap.size w w') : RowB w' R l := by
  obtain ⟨rest, h⟩ := h
  exact ⟨rest, Blk.later h hb⟩
theorem RowB.frozen {w : World} {R : Nat} {l : List Int} (h : RowB w R l) (i : Nat) : w.frozen? ⟨R, i, none⟩ = false := by
  obtain ⟨rest, h⟩ := h
  exact Blk.frozen h i
theorem RowB.lt {w : World} {R : Nat} {l : List Int} (h : RowB w R l) : R < w.heap.size := by
  obtain ⟨rest, h⟩ := h
  exact Blk.lt h
theorem RowB.far {w : World} {R : Nat} {l : List Int} (h : RowB w R l) {p : Addr} (hp : R ≠ p.block) (u : Value) : RowB (w.setCell p u) R l := by
  obtain ⟨rest, h⟩ := h
  exact ⟨rest, Blk.far h hp u⟩
theorem RowB.of_own {w : World} {base R n c : Nat} {l : List Int} (h : w.ownsRow base 3 1 (.slice (some ⟨R, 0, none⟩) n c) n (l.map (Value.int .i64))) : RowB w R l := by
  obtain ⟨hl, h2⟩ := h
  rcases h2 with ⟨h2, _⟩ | ⟨g, cap, cur, h2, h3, h4, h5, h6, h7, h8⟩
  · cases h2
  · cases h2
    refine ⟨(cur.toList.drop n).toArray, ?_⟩
    unfold Blk
    rw [h4]
    congr 2
    apply Array.toList_inj.1
    have e : rowc l = (l.map (Value.int .i64)).toArray := rfl
    rw [e, ← h8]
    simp

/-- A slice that reads as a list of integers, wherever it starts. -/
def RowI (w : World) (A : Option Addr) (n : Nat) (l : List Int) : Prop :=
  l.length = n ∧ (0 < n → ∃ a : Addr, A = some a ∧ a.block < w.heap.size ∧ ∀ (k : Nat) (v : Int), l[k]? = some v → w.cell? (a.add k) = some (.int .i64 v))
theorem add_block (a : Addr) (k : Nat) : (a.add k).block = a.block := by unfold Addr.add; split <;> rfl
theorem RowI.later {w w' : World} {A : Option Addr} {n : Nat} {l : List Int} (h : RowI w A n l) (hb : Below w.heap.size w w') : RowI w' A n l :=
  ⟨h.1, fun hn => by
    obtain ⟨a, e, hg, hc⟩ := h.2 hn
    exact ⟨a, e, Nat.lt_of_lt_of_le hg hb.size, fun k v hk => (hb.cell (p := a.add k) (by rw [add_block]; exact hg)).trans (hc k v hk)⟩⟩
theorem RowI.at_ {w : World} {A : Option Addr} {n k : Nat} {l : List Int} (h : RowI w A n l) (hk : k < n) : ∃ a : Addr, A = some a ∧ a.block < w.heap.size ∧ w.cell? (a.add k) = some (.int .i64 (l.getD k 0)) := by
  obtain ⟨g, e, hg, hc⟩ := h.2 (by omega)
  have hl : k < l.length := by have := h.1; omega
  refine ⟨g, e, hg, hc k _ ?_⟩
  rw [List.getD_eq_getElem?_getD, List.getElem?_eq_getElem hl]
  rfl
theorem RowI.nil (w : World) (A : Option Addr) : RowI w A 0 [] := ⟨rfl, fun h => absurd h (by omega)⟩
theorem RowI.of_row {w : World} {R : Nat} {l : List Int} (h : RowB w R l) {n : Nat} (hn : l.length = n) : RowI w (some ⟨R, 0, none⟩) n l :=
  ⟨hn, fun _ => ⟨_, rfl, h.lt, fun k v hk => by
    have := h.at_ hk
    rw [Addr.add_lit, Nat.zero_add]
    exact this⟩⟩
/-- The first ones of a row are a row. -/
theorem RowI.take {w : World} {A : Option Addr} {n m : Nat} {l : List Int} (h : RowI w A n l) (hm : m ≤ n) : RowI w A m (l.take m) :=
  ⟨by rw [List.length_take, h.1]; omega, fun h0 => by
    obtain ⟨a, e, hg, hc⟩ := h.2 (by omega)
    refine ⟨a, e, hg, fun k v hk => hc k v ?_⟩
    rw [List.getElem?_take] at hk
    split at hk
    · exact hk
    · simp at hk⟩
theorem own_rowI {w : World} {base : Nat} {A : Option Addr} {n m c : Nat} {l : List Int} (h : w.ownsRow base 3 1 (.slice A m c) n (l.map (Value.int .i64))) : RowI w A m l := by
  obtain ⟨hl, h⟩ := h
  simp only [List.length_map, Nat.mul_one] at hl
  rcases h with ⟨h1, h2⟩ | ⟨g, cap, cur, h1, h2, h3, h4, h5, h6, h7⟩
  · injection h1 with e1 e2 e3
    subst e1 e2
    exact ⟨by omega, fun h => absurd h (by omega)⟩
  · injection h1 with e1 e2 e3
    subst e1 e2
    refine ⟨hl, fun _ => ⟨⟨g, 0, none⟩, rfl, (Array.getElem?_eq_some_iff.1 h3).1, fun k v hk => ?_⟩⟩
    have hkl : k < l.length := (List.getElem?_eq_some_iff.1 hk).1
    rw [Addr.add_lit, Nat.zero_add, cell_of_row w g k cur 3 (0, 0) h3]
    have := congrArg (fun x => x[k]?) h7
    simp only [List.getElem?_map, hk, Option.map_some, List.getElem?_take] at this
    rw [if_pos (by omega)] at this
    rw [← Array.getElem?_toList]
    exact this
end Go.Proofs.Ytnfcigbiebbjdaa
namespace Go.Proofs.Ytnfcigbiebbjdaa
open Go.RowKit

/-- A slice that reads as a list of integers and starts at the head of a block. -/
def RowH (w : World) (A : Option Addr) (n : Nat) (l : List Int) : Prop :=
  l.length = n ∧ (0 < n → ∃ g, A = some ⟨g, 0, none⟩ ∧ g < w.heap.size ∧ ∀ (k : Nat) (v : Int), l[k]? = some v → w.cell? ⟨g, k, none⟩ = some (.int .i64 v))
theorem RowH.later {w w' : World} {A : Option Addr} {n : Nat} {l : List Int} (h : RowH w A n l) (hb : Below w.heap.size w w') : RowH w' A n l :=
  ⟨h.1, fun hn => by
    obtain ⟨g, e, hg, hc⟩ := h.2 hn
    exact ⟨g, e, Nat.lt_of_lt_of_le hg hb.size, fun k v hk => (hb.cell (p := ⟨g, k, none⟩) hg).trans (hc k v hk)⟩⟩
theorem RowH.grown {w w' : World} {A : Option Addr} {n : Nat} {l : List Int} {r : Nat} (h : RowH w A n l) (hb : w.grownBy w' (some r)) (hr : ∀ g, A = some ⟨g, 0, none⟩ → g ≠ r) : RowH w' A n l :=
  ⟨h.1, fun hn => by
    obtain ⟨g, e, hg, hc⟩ := h.2 hn
    refine ⟨g, e, Nat.lt_of_lt_of_le hg hb.size, fun k v hk => ?_⟩
    have hbk := hb.block g hg (by have := hr g e; simp; exact this)
    have h0 := hc k v hk
    simp only [World.cell?] at h0 ⊢
    rw [hbk]
    exact h0⟩
theorem RowH.at_ {w : World} {A : Option Addr} {n k : Nat} {l : List Int} (h : RowH w A n l) (hk : k < n) : ∃ g, A = some ⟨g, 0, none⟩ ∧ g < w.heap.size ∧ w.cell? ⟨g, k, none⟩ = some (.int .i64 (l.getD k 0)) := by
  obtain ⟨g, e, hg, hc⟩ := h.2 (by omega)
  have hl : k < l.length := by have := h.1; omega
  refine ⟨g, e, hg, hc k _ ?_⟩
  rw [List.getD_eq_getElem?_getD, List.getElem?_eq_getElem hl]
  rfl
theorem RowH.nil (w : World) (A : Option Addr) : RowH w A 0 [] := ⟨rfl, fun h => absurd h (by omega)⟩
theorem RowH.of_row {w : World} {R : Nat} {l : List Int} (h : RowB w R l) {n : Nat} (hn : l.length = n) : RowH w (some ⟨R, 0, none⟩) n l :=
  ⟨hn, fun _ => ⟨_, rfl, h.lt, fun _ _ hk => h.at_ hk⟩⟩
theorem own_rowH {w : World} {base : Nat} {A : Option Addr} {n m c : Nat} {l : List Int} (h : w.ownsRow base 3 1 (.slice A m c) n (l.map (Value.int .i64))) : RowH w A m l := by
  obtain ⟨hl, h⟩ := h
  simp only [List.length_map, Nat.mul_one] at hl
  rcases h with ⟨h1, h2⟩ | ⟨g, cap, cur, h1, h2, h3, h4, h5, h6, h7⟩
  · injection h1 with e1 e2 e3
    subst e1 e2
    exact ⟨by omega, fun h => absurd h (by omega)⟩
  · injection h1 with e1 e2 e3
    subst e1 e2
    refine ⟨hl, fun _ => ⟨g, rfl, (Array.getElem?_eq_some_iff.1 h3).1, fun k v hk => ?_⟩⟩
    have hkl : k < l.length := (List.getElem?_eq_some_iff.1 hk).1
    rw [cell_of_row w g k cur 3 (0, 0) h3]
    have := congrArg (fun x => x[k]?) h7
    simp only [List.getElem?_map, hk, Option.map_some, List.getElem?_take] at this
    rw [if_pos (by omega)] at this
    rw [← Array.getElem?_toList]
    exact this
end Go.Proofs.Ytnfcigbiebbjdaa
