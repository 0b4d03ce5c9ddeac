/-
  The seat's texts Lawl Ords Sortm Jobs Smithm Johnm Levels Swo Mtch Kuhn Gree Gapm Gapn Limb LowF Digm in one: the contracts of the functions that the law reaches, and the plain laws that they rest on.
  Conditions: as each theorem states them.
-/

namespace Go.Proofs.YtpklcjbdmikbdaaGreat

/-- A job. -/
structure Jb where
  work : Int
  rel : Int
  due : Int
  wt : Int
  after : List Int
def Jb.none : Jb := ⟨0, 0, 0, 0, []⟩
/-- What it costs that is done at a time. -/
def fineJ (j : Jb) (t : Int) : Int := j.wt * max 0 (t - j.due)
def jat (l : List Jb) (i : Int) : Jb := l.getD i.toNat Jb.none

section
variable (l : List Jb)
def works : List Int → Int
  | [] => 0
  | i :: r => (jat l i).work + works r
def lateF (t : Int) : List Int → Int
  | [] => 0
  | i :: r => max (fineJ (jat l i) (t + (jat l i).work)) (lateF (t + (jat l i).work) r)
/-- No job takes a time below 0, or costs less for being later. -/
def Fair : Prop := ∀ i, 0 ≤ (jat l i).work ∧ 0 ≤ (jat l i).wt

theorem works_append (a b : List Int) : works l (a ++ b) = works l a + works l b := by
  induction a with
  | nil => simp [works]
  | cons x r ih => simp only [List.cons_append, works, ih]; omega
theorem works_perm {a b : List Int} (h : a.Perm b) : works l a = works l b := by
  induction h with
  | nil => rfl
  | cons x _ ih => simp only [works, ih]
  | swap x y r => simp only [works]; omega
  | trans _ _ h1 h2 => exact h1.trans h2
theorem works_nonneg (h : Fair l) (a : List Int) : 0 ≤ works l a := by
  induction a with
  | nil => exact Int.le_refl _
  | cons x r ih => have := (h x).1; simp only [works]; omega
theorem lateF_nonneg (t : Int) (a : List Int) : 0 ≤ lateF l t a := by
  induction a generalizing t with
  | nil => exact Int.le_refl _
  | cons x r ih => have := ih (t + (jat l x).work); simp only [lateF]; omega
theorem lateF_append (t : Int) (a b : List Int) : lateF l t (a ++ b) = max (lateF l t a) (lateF l (t + works l a) b) := by
  induction a generalizing t with
  | nil => simp only [List.nil_append, works, lateF, Int.add_zero]; have := lateF_nonneg l t b; omega
  | cons x r ih =>
    simp only [List.cons_append, lateF, works, ih]
    rw [show t + ((jat l x).work + works l r) = t + (jat l x).work + works l r by omega]
    omega
theorem fine_mono {j : Jb} (h : 0 ≤ j.wt) {s t : Int} (hst : s ≤ t) : fineJ j s ≤ fineJ j t := Int.mul_le_mul_of_nonneg_left (by omega) h
theorem lateF_mono (h : Fair l) {s t : Int} (hst : s ≤ t) (a : List Int) : lateF l s a ≤ lateF l t a := by
  induction a generalizing s t with
  | nil => exact Int.le_refl _
  | cons x r ih =>
    have h1 := fine_mono (h x).2 (s := s + (jat l x).work) (t := t + (jat l x).work) (by omega)
    have h2 := ih (s := s + (jat l x).work) (t := t + (jat l x).work) (by omega)
    simp only [lateF]
    omega
theorem lateF_erase (h : Fair l) (t : Int) (b : Int) (a : List Int) : lateF l t (a.erase b) ≤ lateF l t a := by
  induction a generalizing t with
  | nil => exact Int.le_refl _
  | cons x r ih =>
    by_cases e : x = b
    · subst e
      rw [List.erase_cons_head]
      have := lateF_mono l h (s := t) (t := t + (jat l x).work) (by have := (h x).1; omega) r
      simp only [lateF]
      omega
    · rw [List.erase_cons_tail (by simpa using e)]
      have := ih (t + (jat l x).work)
      simp only [lateF]
      omega
/-- The order keeps what each job comes after. -/
def Kept (o : List Int) : Prop := o.Pairwise fun x y => y ∉ (jat l x).after
/-- Each job of the order is the best of those that may be the last of the ones up to it. -/
def Lawl (o : List Int) : Prop := ∀ p b q, o = p ++ b :: q → ∀ z ∈ p ++ [b], (∀ i ∈ p ++ [b], z ∉ (jat l i).after) → fineJ (jat l b) (works l (p ++ [b])) ≤ fineJ (jat l z) (works l (p ++ [b]))
theorem Lawl.init {o : List Int} {b : Int} (h : Lawl l (o ++ [b])) : Lawl l o := fun p c q e => h p c (q ++ [b]) (by rw [e]; simp)
/-- **Lawler's order is late the least.** -/
theorem lawl_least (hf : Fair l) : ∀ (n : Nat) (P : List Int), P.length = n → Lawl l P → ∀ o : List Int, o.Perm P → Kept l o → (∀ i ∈ P, i ∉ (jat l i).after) → lateF l 0 P ≤ lateF l 0 o
  | 0, P, hn, _, o, _, _, _ => by
    obtain rfl : P = [] := List.eq_nil_of_length_eq_zero hn
    exact lateF_nonneg l 0 o
  | n + 1, P, hn, hL, o, hp, hk, hs => by
    rcases List.eq_nil_or_concat P with rfl | ⟨Q, b, rfl⟩
    · simp at hn
    rw [List.concat_eq_append] at *
    rcases List.eq_nil_or_concat o with rfl | ⟨R, z, rfl⟩
    · have := hp.length_eq; simp at this
    rw [List.concat_eq_append] at *
    have hQ : ((R ++ [z]).erase b).Perm Q := by
      have h1 := hp.erase b
      have h2 : ((Q ++ [b]).erase b).Perm Q := by
        have h3 : (Q ++ [b]).Perm (b :: Q) := List.perm_append_comm
        have h4 := h3.erase b
        rw [List.erase_cons_head] at h4
        exact h4
      exact h1.trans h2
    have ih := lawl_least hf n Q (by simpa using hn) (Lawl.init l hL) _ hQ (hk.sublist (List.erase_sublist)) fun i hi => hs i (by simp [hi])
    have hw : works l (R ++ [z]) = works l (Q ++ [b]) := works_perm l hp
    have hz : z ∈ Q ++ [b] := hp.mem_iff.1 (by simp)
    have hno : ∀ i ∈ Q ++ [b], z ∉ (jat l i).after := fun i hi => by
      have hi' := hp.mem_iff.2 hi
      rcases List.mem_append.1 hi' with h | h
      · exact (List.pairwise_append.1 hk).2.2 i h z (by simp)
      · obtain rfl : i = z := by simpa using h
        exact hs _ hz
    have hb := hL Q b [] (by simp) z hz hno
    have h1 := lateF_erase l hf 0 b (R ++ [z])
    have e1 := lateF_append l 0 Q [b]
    have e2 := lateF_append l 0 R [z]
    have w1 := works_append l Q [b]
    have w2 := works_append l R [z]
    simp only [lateF, works, Int.zero_add, Int.add_zero] at e1 e2 w1 w2
    rw [← w1] at e1
    rw [← w2, hw] at e2
    have n1 := lateF_nonneg l 0 Q
    have n2 := lateF_nonneg l 0 R
    omega
end
end Go.Proofs.YtpklcjbdmikbdaaGreat
namespace Go.Proofs.YtpklcjbdmikbdaaGreat

def nums (n : Nat) : List Int := (List.range n).map Int.ofNat
theorem mem_nums {n : Nat} {i : Int} : i ∈ nums n ↔ 0 ≤ i ∧ i < n := by
  unfold nums
  rw [List.mem_map]
  constructor
  · rintro ⟨a, h, rfl⟩
    have := List.mem_range.1 h
    simp only [Int.ofNat_eq_natCast]
    omega
  · rintro ⟨h1, h2⟩
    exact ⟨i.toNat, List.mem_range.2 (by omega), by simp only [Int.ofNat_eq_natCast]; omega⟩
theorem nums_length (n : Nat) : (nums n).length = n := by simp [nums]
theorem nums_nodup (n : Nat) : (nums n).Nodup := by
  unfold nums
  exact (List.nodup_range (n := n)).map _ fun a b hne h => hne (Int.ofNat.inj h)
theorem nums_succ (n : Nat) : nums (n + 1) = nums n ++ [(n : Int)] := by simp [nums, List.range_succ]

/-- Each number below n once. -/
def isOrd (n : Nat) (o : List Int) : Prop := o.length = n ∧ o.Nodup ∧ ∀ i ∈ o, 0 ≤ i ∧ i < n
theorem short_of_nodup : ∀ (n : Nat) (o : List Int), o.Nodup → (∀ i ∈ o, 0 ≤ i ∧ i < (n : Int)) → o.length ≤ n
  | 0, o, _, h => by
    cases o with
    | nil => exact Nat.le_refl _
    | cons x r => have := h x (by simp); omega
  | n + 1, o, hd, h => by
    have h1 := short_of_nodup n (o.erase (n : Int)) (hd.erase _) fun i hi => by
      have h2 := h i (List.mem_of_mem_erase hi)
      have h3 : i ≠ (n : Int) := fun e => by subst e; exact (hd.not_mem_erase) hi
      omega
    have h4 := List.length_erase_le (a := (n : Int)) (l := o)
    have h5 : o.length ≤ (o.erase (n : Int)).length + 1 := by rw [List.length_erase]; split <;> omega
    omega
theorem length_le_of_sub {a b : List Int} (h : a.Nodup) (hs : ∀ i ∈ a, i ∈ b) : a.length ≤ b.length := by
  induction a generalizing b with
  | nil => simp
  | cons x r ih =>
    have hx := hs x (by simp)
    have h1 := ih (b := b.erase x) (List.nodup_cons.1 h).2 fun i hi => by
      have hne : i ≠ x := fun e => by subst e; exact (List.nodup_cons.1 h).1 hi
      exact (List.mem_erase_of_ne hne).2 (hs i (by simp [hi]))
    have h2 := List.length_erase_of_mem hx
    have h3 := List.length_pos_of_mem hx
    simp only [List.length_cons]
    omega
theorem isOrd.mem {n : Nat} {o : List Int} (h : isOrd n o) (i : Int) : i ∈ o ↔ 0 ≤ i ∧ i < n := by
  refine ⟨h.2.2 i, fun hi => ?_⟩
  by_cases hm : i ∈ o
  · exact hm
  · have := short_of_nodup n (i :: o) (List.nodup_cons.2 ⟨hm, h.2.1⟩) fun j hj => by
      rcases List.mem_cons.1 hj with rfl | hj
      · exact hi
      · exact h.2.2 j hj
    have h1 := h.1
    simp at this
    omega
theorem isOrd.perm {n : Nat} {o : List Int} (h : isOrd n o) : o.Perm (nums n) := by
  rw [List.perm_iff_count]
  intro a
  by_cases ha : a ∈ o
  · rw [h.2.1.count, (nums_nodup n).count, if_pos ha, if_pos (mem_nums.2 ((h.mem a).1 ha))]
  · rw [List.count_eq_zero_of_not_mem ha, List.count_eq_zero_of_not_mem fun hm => ha ((h.mem a).2 (mem_nums.1 hm))]
theorem isOrd_of_perm {n : Nat} {o : List Int} (h : o.Perm (nums n)) : isOrd n o := ⟨by rw [h.length_eq, nums_length], h.nodup_iff.2 (nums_nodup n), fun _ hi => mem_nums.1 (h.mem_iff.1 hi)⟩

section
variable (l : List Jb)
/-- b is given the place ahead of those of R. -/
def Best (n : Nat) (R : List Int) (b : Int) : Prop :=
  0 ≤ b ∧ b < (n : Int) ∧ b ∉ R ∧ (∀ i : Int, 0 ≤ i → i < n → i ∉ R → b ∉ (jat l i).after) ∧
  ∀ z : Int, 0 ≤ z → z < n → z ∉ R → (∀ i : Int, 0 ≤ i → i < n → i ∉ R → z ∉ (jat l i).after) → fineJ (jat l b) (works l (nums n) - works l R) ≤ fineJ (jat l z) (works l (nums n) - works l R)
inductive Good (n : Nat) : List Int → Prop
  | nil : Good n []
  | cons {R b} : Good n R → Best l n R b → Good n (b :: R)
theorem Good.suffix {n : Nat} {p q : List Int} (h : Good l n (p ++ q)) : Good l n q := by
  induction p with
  | nil => exact h
  | cons x r ih =>
    cases h with
    | cons h1 _ => exact ih h1
theorem Good.nodup {n : Nat} {o : List Int} (h : Good l n o) : o.Nodup ∧ ∀ i ∈ o, 0 ≤ i ∧ i < (n : Int) := by
  induction h with
  | nil => simp
  | cons _ h2 ih =>
    refine ⟨List.nodup_cons.2 ⟨h2.2.2.1, ih.1⟩, fun i hi => ?_⟩
    rcases List.mem_cons.1 hi with rfl | hi
    · exact ⟨h2.1, h2.2.1⟩
    · exact ih.2 i hi
theorem Good.ord {n : Nat} {o : List Int} (h : Good l n o) (hn : o.length = n) : isOrd n o := ⟨hn, (h.nodup l).1, (h.nodup l).2⟩
theorem Good.rest {n : Nat} {p q : List Int} (h : isOrd n (p ++ q)) (i : Int) : (0 ≤ i ∧ i < n ∧ i ∉ q) ↔ i ∈ p := by
  have hm := h.mem i
  have hd := List.nodup_append.1 h.2.1
  rw [List.mem_append] at hm
  constructor
  · rintro ⟨h1, h2, h3⟩
    rcases hm.2 ⟨h1, h2⟩ with h | h
    · exact h
    · exact absurd h h3
  · intro hp
    have h1 := hm.1 (.inl hp)
    exact ⟨h1.1, h1.2, fun hq => hd.2.2 i hp i hq rfl⟩
theorem Good.lawl {n : Nat} {o : List Int} (h : Good l n o) (hn : o.length = n) : Lawl l o := by
  intro p b q e z hz hno
  subst e
  have ho := h.ord l hn
  have hb : Best l n q b := by
    have := h.suffix l
    cases this with
    | cons _ h2 => exact h2
  have hr := Good.rest (n := n) (p := p ++ [b]) (q := q) (by simpa using ho)
  have hw : works l (nums n) - works l q = works l (p ++ [b]) := by
    rw [← works_perm l ho.perm, show p ++ b :: q = (p ++ [b]) ++ q by simp, works_append l (p ++ [b]) q]
    omega
  have hz' := (hr z).2 hz
  have := hb.2.2.2.2 z hz'.1 hz'.2.1 hz'.2.2 fun i h1 h2 h3 => hno i ((hr i).1 ⟨h1, h2, h3⟩)
  rwa [hw] at this
theorem Good.kept {n : Nat} {o : List Int} (h : Good l n o) (hn : o.length = n) : Kept l o := by
  have ho := h.ord l hn
  have key : ∀ q p, o = p ++ q → Kept l q := by
    intro q
    induction q with
    | nil => intro p _; exact List.Pairwise.nil
    | cons b q ih =>
      intro p e
      refine List.pairwise_cons.2 ⟨fun y hy => ?_, ih (p ++ [b]) (by rw [e]; simp)⟩
      -- y stands behind b: when y was placed b was not
      obtain ⟨q1, q2, e2⟩ := List.append_of_mem hy
      have e3 : o = (p ++ b :: q1) ++ y :: q2 := by rw [e, e2]; simp
      have hy2 : Best l n q2 y := by
        have : Good l n ((p ++ b :: q1) ++ y :: q2) := e3 ▸ h
        cases this.suffix l with
        | cons _ h2 => exact h2
      have hr := Good.rest (n := n) (p := (p ++ b :: q1) ++ [y]) (q := q2) (by rw [e3] at ho; simpa using ho)
      have hb := (hr b).2 (by simp)
      exact hy2.2.2.2.1 b hb.1 hb.2.1 hb.2.2
  exact key o [] rfl
/-- **No order that keeps every After is late less.** -/
theorem Good.least (hf : Fair l) (hs : ∀ i, i ∉ (jat l i).after) {n : Nat} {o m : List Int} (h : Good l n o) (hn : o.length = n) (hm : m.Perm (nums n)) (hk : Kept l m) : lateF l 0 o ≤ lateF l 0 m :=
  lawl_least l hf n o hn (h.lawl l hn) m (hm.trans (h.ord l hn).perm.symm) hk fun i _ => hs i
/-- There is always one that may be placed: the last one that is not. -/
theorem some_free {n : Nat} {R : List Int} (hup : ∀ i, ∀ a ∈ (jat l i).after, a < i) (hl : R.length < n) :
    ∃ b : Int, 0 ≤ b ∧ b < (n : Int) ∧ b ∉ R ∧ ∀ i : Int, 0 ≤ i → i < (n : Int) → i ∉ R → b ∉ (jat l i).after := by
  have key : ∀ k : Nat, k ≤ n → (∀ i : Int, (k : Int) ≤ i → i < n → i ∈ R) → ∃ b : Int, 0 ≤ b ∧ b < (n : Int) ∧ b ∉ R ∧ ∀ i : Int, 0 ≤ i → i < (n : Int) → i ∉ R → b ∉ (jat l i).after := by
    intro k
    induction k with
    | zero =>
      intro _ h
      exfalso
      have h2 : (nums n).length ≤ R.length := length_le_of_sub (nums_nodup n) fun i hi => h i (by have := mem_nums.1 hi; omega) (mem_nums.1 hi).2
      rw [nums_length] at h2
      omega
    | succ k ih =>
      intro hk h
      by_cases hm : (k : Int) ∈ R
      · exact ih (by omega) fun i h1 h2 => by
          by_cases e : i = k
          · subst e; exact hm
          · exact h i (by omega) h2
      · exact ⟨k, by omega, by omega, hm, fun i h1 h2 h3 ha => by
          have h4 := hup i _ ha
          exact h3 (h i (by omega) h2)⟩
  exact key n (Nat.le_refl _) fun i h1 h2 => by omega
end
end Go.Proofs.YtpklcjbdmikbdaaGreat
namespace Go.Proofs.YtpklcjbdmikbdaaGreat

/-- A total order that a comparison agrees with on what came earlier (x) and later (y). -/
structure TotLe (le : Int → Int → Prop) : Prop where
  total : ∀ x y, le x y ∨ le y x
  trans : ∀ x y z, le x y → le y z → le x z

section
variable {le : Int → Int → Prop} (T : TotLe le)
/-- x has come to stand behind S1 and ahead of S2. -/
theorem ins_sorted {S1 S2 : List Int} {x : Int} (h : (S1 ++ S2).Pairwise le) (h2 : ∀ s ∈ S2, le x s) (h1 : ∀ s ∈ S1, le s x) : (S1 ++ x :: S2).Pairwise le := by
  rw [List.pairwise_append] at h ⊢
  refine ⟨h.1, List.pairwise_cons.2 ⟨h2, h.2.1⟩, fun a ha b hb => ?_⟩
  rcases List.mem_cons.1 hb with rfl | hb
  · exact h1 a ha
  · exact h.2.2 a ha b hb
include T in
/-- All of a sorted list are before x if the last one is. -/
theorem all_before {S : List Int} {s x : Int} (h : (S ++ [s]).Pairwise le) (hs : le s x) : ∀ a ∈ S ++ [s], le a x := fun a ha => by
  rcases List.mem_append.1 ha with ha | ha
  · exact T.trans a s x ((List.pairwise_append.1 h).2.2 a ha s (by simp)) hs
  · obtain rfl : a = s := by simpa using ha
    exact hs
include T in
theorem all_behind {S : List Int} {s x : Int} (h : (s :: S).Pairwise le) (hs : le x s) : ∀ a ∈ s :: S, le x a := fun a ha => by
  rcases List.mem_cons.1 ha with rfl | ha
  · exact hs
  · exact T.trans x s a hs ((List.pairwise_cons.1 h).1 a ha)
/-- Two runs: each is cut so that the first parts come before the second ones. -/
theorem merge_cut {A1 A2 B1 B2 C1 C2 : List Int} (hA : (A1 ++ A2).Pairwise le) (hB : (B1 ++ B2).Pairwise le) (h1 : ∀ a ∈ A1, ∀ b ∈ B2, le a b) (h2 : ∀ b ∈ B1, ∀ a ∈ A2, le b a)
    (p1 : C1.Perm (A1 ++ B1)) (p2 : C2.Perm (A2 ++ B2)) (s1 : C1.Pairwise le) (s2 : C2.Pairwise le) : (C1 ++ C2).Pairwise le ∧ (C1 ++ C2).Perm ((A1 ++ A2) ++ (B1 ++ B2)) := by
  constructor
  · refine List.pairwise_append.2 ⟨s1, s2, fun x hx y hy => ?_⟩
    have hx' := p1.mem_iff.1 hx
    have hy' := p2.mem_iff.1 hy
    rcases List.mem_append.1 hx' with a | b <;> rcases List.mem_append.1 hy' with c | d
    · exact (List.pairwise_append.1 hA).2.2 x a y c
    · exact h1 x a y d
    · exact h2 x b y c
    · exact (List.pairwise_append.1 hB).2.2 x b y d
  · refine (p1.append p2).trans ?_
    rw [List.append_assoc, List.append_assoc]
    refine List.Perm.append_left A1 ?_
    rw [← List.append_assoc, ← List.append_assoc]
    exact List.Perm.append_right B2 List.perm_append_comm
end
/-- Two neighbours exchanged. -/
theorem swap_next (P Q : List Int) (s x : Int) : ((P ++ s :: x :: Q).set P.length x).set (P.length + 1) s = P ++ x :: s :: Q := by
  rw [List.set_append_right _ _ (Nat.le_refl _), Nat.sub_self, List.set_cons_zero, List.set_append_right _ _ (by omega), show P.length + 1 - P.length = 1 by omega]
  rfl
theorem at_mid (P Q : List Int) (x : Int) : (P ++ x :: Q)[P.length]? = some x := by simp
theorem at_mid1 (P Q : List Int) (s x : Int) : (P ++ s :: x :: Q)[P.length + 1]? = some x := by
  rw [List.getElem?_append_right (by omega), show P.length + 1 - P.length = 1 by omega]
  rfl
end Go.Proofs.YtpklcjbdmikbdaaGreat
namespace Go.Proofs.YtpklcjbdmikbdaaGreat

/-- Do numbers rise, from one on, below a limit? -/
def riseB (lim : Int) : Int → List Int → Bool
  | _, [] => true
  | last, n :: r => decide (last < n) && (decide (n < lim) && riseB lim n r)
def jobB (i : Nat) (j : Jb) : Bool :=
  decide (1 ≤ j.work ∧ j.work ≤ 10000 ∧ 0 ≤ j.rel ∧ j.rel ≤ 640000 ∧ 0 ≤ j.due ∧ j.due ≤ 640000 ∧ 0 ≤ j.wt ∧ j.wt ≤ 1000) && riseB i (-1) j.after
/-- Are the jobs valid, from number i on? -/
def allB : Nat → List Jb → Bool
  | _, [] => true
  | i, j :: r => jobB i j && allB (i + 1) r
def validB (l : List Jb) : Bool := decide (l.length ≤ 64) && allB 0 l

theorem riseB_lt {lim : Int} : ∀ {last : Int} {a : List Int}, riseB lim last a = true → ∀ x ∈ a, last < x ∧ x < lim
  | _, [], _, x, hx => by simp at hx
  | last, n :: r, h, x, hx => by
    simp only [riseB, Bool.and_eq_true, decide_eq_true_eq] at h
    rcases List.mem_cons.1 hx with rfl | hx
    · exact ⟨h.1, h.2.1⟩
    · have := riseB_lt h.2.2 x hx
      exact ⟨by omega, this.2⟩
theorem riseB_nodup {lim : Int} : ∀ {last : Int} {a : List Int}, riseB lim last a = true → a.Nodup
  | _, [], _ => List.nodup_nil
  | last, n :: r, h => by
    simp only [riseB, Bool.and_eq_true, decide_eq_true_eq] at h
    refine List.nodup_cons.2 ⟨fun hm => ?_, riseB_nodup h.2.2⟩
    have := riseB_lt h.2.2 n hm
    omega
theorem allB_at : ∀ {i : Nat} {l : List Jb}, allB i l = true → ∀ (k : Nat) (j : Jb), l[k]? = some j → jobB (i + k) j = true
  | _, [], _, k, j, hk => by simp at hk
  | i, x :: r, h, k, j, hk => by
    simp only [allB, Bool.and_eq_true] at h
    cases k with
    | zero => simp at hk; subst hk; exact h.1
    | succ k =>
      have := allB_at h.2 k j (by simpa using hk)
      rwa [show i + 1 + k = i + (k + 1) by omega] at this
theorem jat_get {l : List Jb} {k : Nat} {j : Jb} (h : l[k]? = some j) : jat l k = j := by
  unfold jat
  rw [Int.toNat_natCast, List.getD_eq_getElem?_getD, h]
  rfl
theorem jat_cases (l : List Jb) (i : Int) : jat l i = Jb.none ∨ ∃ k : Nat, i.toNat = k ∧ l[k]? = some (jat l i) := by
  unfold jat
  rw [List.getD_eq_getElem?_getD]
  cases h : l[i.toNat]? with
  | none => exact .inl rfl
  | some j => exact .inr ⟨_, rfl, h⟩
theorem validB_fair {l : List Jb} (h : validB l = true) : Fair l := fun i => by
  unfold validB at h
  simp only [Bool.and_eq_true] at h
  rcases jat_cases l i with e | ⟨k, _, e⟩
  · rw [e]; decide
  · have := allB_at h.2 k _ e
    unfold jobB at this
    simp only [Bool.and_eq_true, decide_eq_true_eq] at this
    omega
theorem validB_up {l : List Jb} (h : validB l = true) (i : Int) : ∀ a ∈ (jat l i).after, 0 ≤ a ∧ a < i := fun a ha => by
  unfold validB at h
  simp only [Bool.and_eq_true] at h
  rcases jat_cases l i with e | ⟨k, hk, e⟩
  · rw [e] at ha; simp [Jb.none] at ha
  · have := allB_at h.2 k _ e
    unfold jobB at this
    simp only [Bool.and_eq_true] at this
    have := riseB_lt this.2 a ha
    omega

/-- How late, as a loop computes it. -/
def lateA (l : List Jb) (t m : Int) : List Int → Int
  | [] => m
  | i :: r => lateA l (t + (jat l i).work) (max m (fineJ (jat l i) (t + (jat l i).work))) r
theorem lateA_eq (l : List Jb) : ∀ (o : List Int) (t m : Int), 0 ≤ m → lateA l t m o = max m (lateF l t o)
  | [], t, m, h => by simp only [lateA, lateF]; omega
  | i :: r, t, m, h => by
    simp only [lateA, lateF]
    rw [lateA_eq l r _ _ (by omega)]
    omega

/-- How often a is named by the jobs of some numbers. -/
def named (l : List Jb) (o : List Int) (a : Int) : Nat := match o with
  | [] => 0
  | i :: r => (jat l i).after.count a + named l r a
theorem named_append (l : List Jb) (a : Int) (p q : List Int) : named l (p ++ q) a = named l p a + named l q a := by
  induction p with
  | nil => simp [named]
  | cons x r ih => simp only [List.cons_append, named, ih]; omega
theorem named_perm {l : List Jb} {p q : List Int} (h : p.Perm q) (a : Int) : named l p a = named l q a := by
  induction h with
  | nil => rfl
  | cons x _ ih => simp only [named, ih]
  | swap x y r => simp only [named]; omega
  | trans _ _ h1 h2 => exact h1.trans h2
theorem named_zero {l : List Jb} {o : List Int} {a : Int} : named l o a = 0 ↔ ∀ i ∈ o, a ∉ (jat l i).after := by
  induction o with
  | nil => simp [named]
  | cons x r ih =>
    simp only [named, Nat.add_eq_zero_iff, ih, List.count_eq_zero, List.mem_cons, forall_eq_or_imp]
end Go.Proofs.YtpklcjbdmikbdaaGreat
namespace Go.Proofs.YtpklcjbdmikbdaaGreat
section
variable (l : List Jb)
def wsum (t : Int) : List Int → Int
  | [] => 0
  | i :: r => (jat l i).wt * (t + (jat l i).work) + wsum (t + (jat l i).work) r
/-- As a loop computes it. -/
def wsumA (t m : Int) : List Int → Int
  | [] => m
  | i :: r => wsumA (t + (jat l i).work) (m + (t + (jat l i).work) * (jat l i).wt) r
theorem wsumA_eq : ∀ (o : List Int) (t m : Int), wsumA l t m o = m + wsum l t o
  | [], t, m => by simp [wsumA, wsum]
  | i :: r, t, m => by
    simp only [wsumA, wsum]
    rw [wsumA_eq r, Int.mul_comm]
    omega
/-- Is a job to be done ahead of another one? -/
def smallB (a b : Jb) : Bool := if a.wt = 0 ∨ b.wt = 0 then decide (0 < a.wt ∧ b.wt = 0) else decide (a.work * b.wt < b.work * a.wt)
theorem small_prod (hf : Fair l) {b s : Int} (h : smallB (jat l s) (jat l b) = false) : (jat l b).work * (jat l s).wt ≤ (jat l s).work * (jat l b).wt := by
  have h1 := hf b
  have h2 := hf s
  unfold smallB at h
  split at h
  · rename_i hz
    rw [decide_eq_false_iff_not] at h
    rcases Int.lt_or_le 0 (jat l s).wt with hs | hs
    · have hb : (jat l b).wt ≠ 0 := fun e => h ⟨hs, e⟩
      omega
    · have : (jat l s).wt = 0 := by omega
      rw [this, Int.mul_zero]
      exact Int.mul_nonneg h2.1 h1.2
  · rw [decide_eq_false_iff_not] at h
    omega
theorem wsum_front : ∀ (X Y : List Int) (t b : Int), (∀ s ∈ X, (jat l b).work * (jat l s).wt ≤ (jat l s).work * (jat l b).wt) → wsum l t (b :: (X ++ Y)) ≤ wsum l t (X ++ b :: Y)
  | [], _, _, _, _ => Int.le_refl _
  | s :: X, Y, t, b, h => by
    have ih := wsum_front X Y (t + (jat l s).work) b fun x hx => h x (by simp [hx])
    have hs := h s (by simp)
    simp only [List.cons_append, wsum] at ih ⊢
    rw [show t + (jat l b).work + (jat l s).work = t + (jat l s).work + (jat l b).work by omega]
    generalize wsum l (t + (jat l s).work + (jat l b).work) (X ++ Y) = c at *
    generalize wsum l (t + (jat l s).work) (X ++ b :: Y) = d at *
    have e1 : (jat l b).wt * (t + (jat l b).work) = (jat l b).wt * t + (jat l b).wt * (jat l b).work := Int.mul_add _ _ _
    have e2 : (jat l s).wt * (t + (jat l s).work + (jat l b).work) = (jat l s).wt * (t + (jat l s).work) + (jat l s).wt * (jat l b).work := Int.mul_add _ _ _
    have e3 : (jat l b).wt * (t + (jat l s).work + (jat l b).work) = (jat l b).wt * t + (jat l b).wt * (jat l s).work + (jat l b).wt * (jat l b).work := by rw [Int.mul_add, Int.mul_add]
    rw [Int.mul_comm (jat l b).work, Int.mul_comm (jat l s).work] at hs
    omega
/-- **An order by rising work over weight has the least weighted sum.** -/
theorem smith_least (hf : Fair l) : ∀ (o m : List Int) (t : Int), o.Pairwise (fun x y => smallB (jat l y) (jat l x) = false) → m.Perm o → wsum l t o ≤ wsum l t m
  | [], m, t, _, hp => by
    have := hp.length_eq
    obtain rfl : m = [] := List.eq_nil_of_length_eq_zero (by simpa using this)
    exact Int.le_refl _
  | b :: o, m, t, h, hp => by
    have hb : b ∈ m := hp.mem_iff.2 (by simp)
    obtain ⟨X, Y, rfl⟩ := List.append_of_mem hb
    have hXY : (X ++ Y).Perm o := by
      have : (X ++ b :: Y).Perm (b :: (X ++ Y)) := List.perm_middle
      exact List.Perm.cons_inv (this.symm.trans hp)
    have h1 := wsum_front l X Y t b fun s hs => small_prod l hf ((List.pairwise_cons.1 h).1 s (hXY.mem_iff.1 (by simp [hs])))
    have h2 := smith_least hf o (X ++ Y) (t + (jat l b).work) (List.pairwise_cons.1 h).2 hXY
    simp only [wsum] at h1 ⊢
    omega
end
end Go.Proofs.YtpklcjbdmikbdaaGreat
namespace Go.Proofs.YtpklcjbdmikbdaaGreat
def iat (l : List Int) (i : Int) : Int := l.getD i.toNat 0
section
variable (a b : List Int)
/-- When the last one is done on the second bench, the first bench being free from t on, the second from u on. -/
def lenF (t u : Int) : List Int → Int
  | [] => u
  | i :: r => lenF (t + iat a i) (max (t + iat a i) u + iat b i) r
theorem lenF_mono : ∀ (o : List Int) (t u v : Int), u ≤ v → lenF a b t u o ≤ lenF a b t v o
  | [], _, _, _, h => h
  | i :: r, t, u, v, h => lenF_mono r _ _ _ (by omega)
theorem lenF_append : ∀ (o p : List Int) (t u : Int), ∃ t', lenF a b t u (o ++ p) = lenF a b t' (lenF a b t u o) p ∧ ∀ v, lenF a b t v (o ++ p) = lenF a b t' (lenF a b t v o) p
  | [], p, t, u => ⟨t, rfl, fun _ => rfl⟩
  | i :: r, p, t, u => by
    obtain ⟨t', h1, h2⟩ := lenF_append r p (t + iat a i) (max (t + iat a i) u + iat b i)
    exact ⟨t', h1, fun v => h2 _⟩
/-- Is j to be done no later than i? -/
def Before (j i : Int) : Prop := min (iat a j) (iat b i) ≤ min (iat a i) (iat b j)
theorem len_swap (t u j i : Int) (r : List Int) (h : Before a b j i) : lenF a b t u (j :: i :: r) ≤ lenF a b t u (i :: j :: r) := by
  unfold Before at h
  simp only [lenF]
  rw [show t + iat a j + iat a i = t + iat a i + iat a j by omega]
  exact lenF_mono a b r _ _ _ (by omega)
theorem len_front : ∀ (X Y : List Int) (t u j : Int), (∀ i ∈ X, Before a b j i) → lenF a b t u (j :: (X ++ Y)) ≤ lenF a b t u (X ++ j :: Y)
  | [], _, _, _, _, _ => Int.le_refl _
  | i :: X, Y, t, u, j, h => by
    have ih := len_front X Y (t + iat a i) (max (t + iat a i) u + iat b i) j fun x hx => h x (by simp [hx])
    exact Int.le_trans (len_swap a b t u j i (X ++ Y) (h i (by simp))) ih
/-- **Johnson's order is done the earliest.** -/
theorem johnson_least : ∀ (o m : List Int) (t u : Int), o.Pairwise (Before a b) → m.Perm o → lenF a b t u o ≤ lenF a b t u m
  | [], m, t, u, _, hp => by
    have := hp.length_eq
    obtain rfl : m = [] := List.eq_nil_of_length_eq_zero (by simpa using this)
    exact Int.le_refl _
  | j :: o, m, t, u, h, hp => by
    have hb : j ∈ m := hp.mem_iff.2 (by simp)
    obtain ⟨X, Y, rfl⟩ := List.append_of_mem hb
    have hXY : (X ++ Y).Perm o := List.Perm.cons_inv ((List.perm_middle (a := j) (l₁ := X) (l₂ := Y)).symm.trans hp)
    have h1 := len_front a b X Y t u j fun s hs => (List.pairwise_cons.1 h).1 s (hXY.mem_iff.1 (by simp [hs]))
    have h2 := johnson_least o (X ++ Y) (t + iat a j) (max (t + iat a j) u + iat b j) (List.pairwise_cons.1 h).2 hXY
    simp only [lenF] at h1 ⊢
    omega
/-- Johnson's rule: the early ones by rising first time, then the others by falling second time. -/
def johnB (j i : Int) : Prop :=
  if iat a j < iat b j then (iat a i < iat b i → iat a j ≤ iat a i) else ¬ iat a i < iat b i ∧ iat b i ≤ iat b j
theorem john_before {j i : Int} (h : johnB a b j i) : Before a b j i := by
  unfold johnB at h
  unfold Before
  split at h
  · by_cases e : iat a i < iat b i
    · have := h e; omega
    · omega
  · omega
/-! Turned round. -/
def sums : List Int → Int
  | [] => 0
  | i :: r => iat b i + sums r
/-- From the front. -/
def front : List Int → Int
  | [] => 0
  | i :: r => max (iat a i + iat b i + sums b r) (iat a i + front r)
theorem front_sums (ha : ∀ i, 0 ≤ iat a i) : ∀ o : List Int, sums b o ≤ front a b o
  | [] => Int.le_refl _
  | i :: r => by have := ha i; simp only [sums, front]; omega
theorem lenF_front (ha : ∀ i, 0 ≤ iat a i) (hb : ∀ i, 0 ≤ iat b i) : ∀ (o : List Int) (t u : Int), lenF a b t u o = if o = [] then u else max (u + sums b o) (t + front a b o)
  | [], t, u => rfl
  | i :: r, t, u => by
    have h1 := ha i
    have h2 := hb i
    rw [if_neg (by simp)]
    simp only [lenF, sums, front]
    rw [lenF_front ha hb r]
    split
    · rename_i e
      subst e
      simp only [sums, front]
      omega
    · have := front_sums a b ha r
      omega
end
theorem sums_append (b : List Int) : ∀ o p : List Int, sums b (o ++ p) = sums b o + sums b p
  | [], p => by simp [sums]
  | i :: r, p => by simp only [List.cons_append, sums, sums_append b r p]; omega
theorem sums_reverse (b : List Int) : ∀ o : List Int, sums b o.reverse = sums b o
  | [] => rfl
  | i :: r => by rw [List.reverse_cons, sums_append, sums_reverse b r]; simp only [sums]; omega
theorem lenF_last (a b : List Int) : ∀ (o : List Int) (t u i : Int), lenF a b t u (o ++ [i]) = max (t + sums a o + iat a i) (lenF a b t u o) + iat b i
  | [], t, u, i => by simp only [List.nil_append, lenF, sums]; omega
  | j :: r, t, u, i => by
    simp only [List.cons_append, lenF, sums]
    rw [lenF_last a b r]
    rw [show t + iat a j + sums a r + iat a i = t + (iat a j + sums a r) + iat a i by omega]
theorem lenF_round (a b : List Int) (ha : ∀ i, 0 ≤ iat a i) (hb : ∀ i, 0 ≤ iat b i) : ∀ o : List Int, lenF a b 0 0 o.reverse = front b a o
  | [] => rfl
  | i :: r => by
    rw [List.reverse_cons, lenF_last, lenF_round a b ha hb r, sums_reverse]
    simp only [front]
    omega
/-- **Turned round, with the benches exchanged, an order takes as long.** -/
theorem len_round (a b : List Int) (ha : ∀ i, 0 ≤ iat a i) (hb : ∀ i, 0 ≤ iat b i) (o : List Int) : lenF a b 0 0 o.reverse = lenF b a 0 0 o := by
  rw [lenF_round a b ha hb, lenF_front b a hb ha]
  have := front_sums b a hb o
  split
  · rename_i e; subst e; rfl
  · omega
end Go.Proofs.YtpklcjbdmikbdaaGreat
namespace Go.Proofs.YtpklcjbdmikbdaaGreat

/-- The first t of L are those of d, in some order. -/
def Prm (d L : List Int) (t : Nat) : Prop := (L.take t).Perm (d.take t)
/-- From t on L rises for m numbers. -/
def Srt (le : Int → Int → Prop) (L : List Int) (t m : Nat) : Prop := ((L.drop t).take m).Pairwise le
/-- The first k runs of M are made, the rest is in runs of m. -/
def Level (le : Int → Int → Prop) (d L : List Int) (m M k : Nat) : Prop :=
  L.length = d.length ∧ (∀ j, j ≤ k → Prm d L (M * j)) ∧ (∀ j, j < k → Srt le L (M * j) M) ∧ ∀ i, M * k ≤ m * i → Prm d L (m * i) ∧ Srt le L (m * i) m

theorem take_hi {X Q : List Int} {t : Nat} (h : X.length ≤ t) : (X ++ Q).take t = X ++ Q.take (t - X.length) := by
  rw [List.take_append, List.take_of_length_le h]
theorem drop_hi {X Q : List Int} {t : Nat} (h : X.length ≤ t) : (X ++ Q).drop t = Q.drop (t - X.length) := by
  rw [List.drop_append, List.drop_of_length_le h, List.nil_append]
theorem take_turn {P S S' Q : List Int} {t : Nat} (hS : S'.Perm S) (ht : t ≤ P.length ∨ P.length + S.length ≤ t) : ((P ++ S' ++ Q).take t).Perm ((P ++ S ++ Q).take t) := by
  have hl := hS.length_eq
  rcases ht with h | h
  · rw [List.append_assoc, List.append_assoc, List.take_append_of_le_length h, List.take_append_of_le_length h]
  · rw [take_hi (X := P ++ S') (by rw [List.length_append]; omega), take_hi (X := P ++ S) (by rw [List.length_append]; omega), List.length_append, List.length_append, hl]
    exact (hS.append_left P).append_right _
theorem drop_turn {P S S' Q : List Int} {t : Nat} (hS : S'.Perm S) (ht : P.length + S.length ≤ t) : (P ++ S' ++ Q).drop t = (P ++ S ++ Q).drop t := by
  have hl := hS.length_eq
  rw [drop_hi (X := P ++ S') (by rw [List.length_append]; omega), drop_hi (X := P ++ S) (by rw [List.length_append]; omega), List.length_append, List.length_append, hl]
theorem seg_turn {P S S' Q : List Int} {t m : Nat} (ht : t + m ≤ P.length) : ((P ++ S' ++ Q).drop t).take m = ((P ++ S ++ Q).drop t).take m := by
  rw [List.append_assoc, List.append_assoc, List.drop_append_of_le_length (by omega), List.drop_append_of_le_length (by omega), List.take_append_of_le_length (by rw [List.length_drop]; omega), List.take_append_of_le_length (by rw [List.length_drop]; omega)]

theorem Level.step {le : Int → Int → Prop} {d P S S' Q : List Int} {m M k c : Nat} (h : Level le d (P ++ S ++ Q) m M k) (hM : M = m * c) (hP : P.length = M * k) (hS : S.length = M ∨ (S.length ≤ M ∧ Q = [])) (hp : S'.Perm S) (hs : S'.Pairwise le) :
    Level le d (P ++ S' ++ Q) m M (k + 1) := by
  obtain ⟨h0, h1, h2, h3⟩ := h
  have hl := hp.length_eq
  have hMk : M * (k + 1) = M * k + M := Nat.mul_succ M k
  have hlen : (P ++ S' ++ Q).length = (P ++ S ++ Q).length := by simp only [List.length_append]; omega
  refine ⟨by omega, fun j hj => ?_, fun j hj => ?_, fun i hi => ?_⟩
  · rcases Nat.lt_or_ge k j with hjk | hjk
    · obtain rfl : j = k + 1 := by omega
      have e : M * (k + 1) = m * (c * (k + 1)) := by rw [hM, Nat.mul_assoc]
      have h4 : Prm d (P ++ S ++ Q) (M * (k + 1)) := by rw [e]; exact (h3 _ (by rw [← e]; omega)).1
      exact (take_turn hp (.inr (by rcases hS with h | h <;> omega))).trans h4
    · have hle : M * j ≤ M * k := Nat.mul_le_mul_left M hjk
      exact (take_turn hp (.inl (by omega))).trans (h1 j hjk)
  · rcases Nat.lt_or_ge j k with hjk | hjk
    · have hle : M * (j + 1) ≤ M * k := Nat.mul_le_mul_left M hjk
      rw [Nat.mul_succ] at hle
      unfold Srt
      rw [seg_turn (S := S) (by omega)]
      exact h2 j hjk
    · obtain rfl : j = k := by omega
      unfold Srt
      rw [← hP, List.append_assoc, List.drop_append_of_le_length (Nat.le_refl _), List.drop_length, List.nil_append]
      rcases hS with h | ⟨h, rfl⟩
      · rw [List.take_append_of_le_length (by omega), List.take_of_length_le (by omega)]
        exact hs
      · rw [List.append_nil, List.take_of_length_le (by omega)]
        exact hs
  · have hge : M * k ≤ m * i := by omega
    obtain ⟨h4, h5⟩ := h3 i hge
    have hend : P.length + S.length ≤ m * i := by rcases hS with h | h <;> omega
    refine ⟨(take_turn hp (.inr hend)).trans h4, ?_⟩
    unfold Srt
    rw [drop_turn hp hend]
    exact h5
/-- All runs are made: they are the runs of the next level. -/
theorem Level.next {le : Int → Int → Prop} {d L : List Int} {m M k : Nat} (M' : Nat) (h : Level le d L m M k) (hk : d.length ≤ M * k) : Level le d L M M' 0 := by
  obtain ⟨h0, h1, h2, _⟩ := h
  have hw : L.Perm d := by
    have := h1 k (Nat.le_refl _)
    unfold Prm at this
    rwa [List.take_of_length_le (by omega), List.take_of_length_le (by omega)] at this
  refine ⟨h0, fun j hj => ?_, fun j hj => by omega, fun i _ => ?_⟩
  · obtain rfl : j = 0 := by omega
    unfold Prm
    simp
  · rcases Nat.lt_or_ge i k with hi | hi
    · exact ⟨h1 i (by omega), h2 i hi⟩
    · have hge : M * k ≤ M * i := Nat.mul_le_mul_left M hi
      constructor
      · unfold Prm
        rw [List.take_of_length_le (by omega), List.take_of_length_le (by omega)]
        exact hw
      · unfold Srt
        rw [List.drop_of_length_le (by omega)]
        simp
theorem Level.first {le : Int → Int → Prop} (d : List Int) (M : Nat) : Level le d d 1 M 0 := by
  refine ⟨rfl, fun j _ => List.Perm.refl _, fun j hj => by omega, fun i _ => ⟨List.Perm.refl _, ?_⟩⟩
  unfold Srt
  cases h : d.drop (1 * i) with
  | nil => simp
  | cons x r => simp
theorem Level.done {le : Int → Int → Prop} {d L : List Int} {m M : Nat} (h : Level le d L m M 0) (hn : d.length ≤ m) : L.Perm d ∧ L.Pairwise le := by
  obtain ⟨h0, _, _, h3⟩ := h
  have a := (h3 0 (by omega)).2
  have b := (h3 1 (by omega)).1
  unfold Srt at a
  unfold Prm at b
  rw [Nat.mul_zero, List.drop_zero, List.take_of_length_le (by omega)] at a
  rw [Nat.mul_one, List.take_of_length_le (by omega), List.take_of_length_le (by omega)] at b
  exact ⟨b, a⟩
theorem Level.perm {le : Int → Int → Prop} {d L : List Int} {m M k c : Nat} (h : Level le d L m M k) (hM : M = m * c) (hm : 0 < m) : L.Perm d := by
  obtain ⟨h0, _, _, h3⟩ := h
  have e : M * k = m * (c * k) := by rw [hM, Nat.mul_assoc]
  have h1 : m * (c * k) ≤ m * (c * k + d.length) := Nat.mul_le_mul_left m (by omega)
  have h2 : m * d.length ≤ m * (c * k + d.length) := Nat.mul_le_mul_left m (by omega)
  have h4 : 1 * d.length ≤ m * d.length := Nat.mul_le_mul_right _ hm
  have h5 := (h3 (c * k + d.length) (by omega)).1
  unfold Prm at h5
  rwa [List.take_of_length_le (by omega), List.take_of_length_le (by omega)] at h5
/-- What comes ahead of a cut and what comes behind it. -/
theorem prm_cross {d L : List Int} {t : Nat} {R : Int → Int → Prop} (hd : d.Pairwise R) (hp : Prm d L t) (hw : L.Perm d) : ∀ x ∈ L.take t, ∀ y ∈ L.drop t, R x y := by
  intro x hx y hy
  have e : d = d.take t ++ d.drop t := (List.take_append_drop t d).symm
  rw [e] at hd
  have h2 : (L.drop t).Perm (d.drop t) := by
    have h3 : (L.take t ++ L.drop t).Perm (d.take t ++ d.drop t) := by rw [List.take_append_drop, List.take_append_drop]; exact hw
    exact (List.perm_append_left_iff (d.take t)).1 ((hp.symm.append_right _).trans h3)
  exact (List.pairwise_append.1 hd).2.2 x (hp.mem_iff.1 hx) y (h2.mem_iff.1 hy)
end Go.Proofs.YtpklcjbdmikbdaaGreat
namespace Go.Proofs.YtpklcjbdmikbdaaGreat

structure Swo (cf : Int → Int → Int) : Prop where
  asymm : ∀ x y, cf x y < 0 → ¬ cf y x < 0
  neg : ∀ x y z, ¬ cf x y < 0 → ¬ cf y z < 0 → ¬ cf x z < 0
/-- By the comparison, and where it tells nothing by the numbers. -/
def leOf (cf : Int → Int → Int) (x y : Int) : Prop := ¬ cf y x < 0 ∧ (cf x y < 0 ∨ x ≤ y)
section
variable {cf : Int → Int → Int} (S : Swo cf)
include S
theorem Swo.tot : TotLe (leOf cf) where
  total x y := by
    unfold leOf
    have h1 := S.asymm x y
    have h2 := S.asymm y x
    by_cases a : cf x y < 0
    · exact .inl ⟨h1 a, .inl a⟩
    · by_cases b : cf y x < 0
      · exact .inr ⟨a, .inl b⟩
      · rcases Int.le_total x y with h | h
        · exact .inl ⟨b, .inr h⟩
        · exact .inr ⟨a, .inr h⟩
  trans x y z := by
    rintro ⟨a1, a2⟩ ⟨b1, b2⟩
    refine ⟨S.neg z y x b1 a1, ?_⟩
    by_cases h : cf x z < 0
    · exact .inl h
    · right
      -- then none of the two is told apart from y
      have h1 : ¬ cf x y < 0 := S.neg x z y h b1
      have h2 : ¬ cf y z < 0 := S.neg y x z a1 h
      rcases a2 with a2 | a2
      · exact absurd a2 h1
      · rcases b2 with b2 | b2
        · exact absurd b2 h2
        · omega
end
/-- What comes earlier in a rising list, and what comes later. -/
theorem Swo.agree {cf : Int → Int → Int} {x y : Int} (h : x ≤ y) : cf y x < 0 ↔ ¬ leOf cf x y := by
  unfold leOf
  constructor
  · exact fun c k => k.1 c
  · intro k
    by_cases c : cf y x < 0
    · exact c
    · exact absurd ⟨c, .inr h⟩ k
def cmpI (x y : Int) : Int := if x < y then -1 else if y < x then 1 else 0
theorem cmpI_neg {x y : Int} : cmpI x y < 0 ↔ x < y := by
  unfold cmpI
  by_cases h : x < y
  · rw [if_pos h]; omega
  · rw [if_neg h]; split <;> omega
section
variable (l : List Jb)
def smithC (x y : Int) : Int :=
  if (jat l x).wt = 0 ∨ (jat l y).wt = 0 then cmpI (min 1 (jat l y).wt) (min 1 (jat l x).wt) else cmpI ((jat l x).work * (jat l y).wt) ((jat l y).work * (jat l x).wt)
theorem smithC_neg (hf : Fair l) (x y : Int) : smithC l x y < 0 ↔ smallB (jat l x) (jat l y) = true := by
  have h1 := (hf x).2
  have h2 := (hf y).2
  unfold smithC smallB
  split
  · rw [cmpI_neg, decide_eq_true_iff]; omega
  · rw [cmpI_neg, decide_eq_true_iff]
theorem smith_swo (hf : Fair l) : Swo (smithC l) where
  asymm x y := by
    rw [smithC_neg l hf, smithC_neg l hf]
    unfold smallB
    split <;> split <;> simp only [decide_eq_true_iff] <;> omega
  neg x y z := by
    rw [smithC_neg l hf, smithC_neg l hf, smithC_neg l hf, Bool.not_eq_true, Bool.not_eq_true, Bool.not_eq_true]
    intro h1 h2
    have fx := hf x
    have fy := hf y
    have fz := hf z
    unfold smallB at *
    by_cases cx : (jat l x).wt = 0
    · rw [if_pos (.inl cx), decide_eq_false_iff_not]; omega
    by_cases cz : (jat l z).wt = 0
    · rw [if_pos (.inr cz), decide_eq_false_iff_not]
      rw [if_pos (.inr cz), decide_eq_false_iff_not] at h2
      by_cases cy : (jat l y).wt = 0
      · rw [if_pos (.inr cy), decide_eq_false_iff_not] at h1; omega
      · omega
    by_cases cy : (jat l y).wt = 0
    · rw [if_pos (.inr cy), decide_eq_false_iff_not] at h1; omega
    rw [if_neg (by omega), decide_eq_false_iff_not] at *
    generalize (jat l x).work = px at *
    generalize (jat l y).work = py at *
    generalize (jat l z).work = pz at *
    generalize (jat l x).wt = wx at *
    generalize (jat l y).wt = wy at *
    generalize (jat l z).wt = wz at *
    intro h3
    have e1 : py * wx * wz ≤ px * wy * wz := Int.mul_le_mul_of_nonneg_right (by omega) fz.2
    have e2 : pz * wy * wx ≤ py * wz * wx := Int.mul_le_mul_of_nonneg_right (by omega) fx.2
    have e3 : wy * (px * wz) < wy * (pz * wx) := Int.mul_lt_mul_of_pos_left h3 (by omega)
    have r1 : py * wx * wz = py * wz * wx := by rw [Int.mul_assoc, Int.mul_comm wx wz, ← Int.mul_assoc]
    have r2 : px * wy * wz = wy * (px * wz) := by rw [Int.mul_comm px wy, Int.mul_assoc]
    have r3 : pz * wy * wx = wy * (pz * wx) := by rw [Int.mul_comm pz wy, Int.mul_assoc]
    omega
end
section
variable (a b : List Int)
def johnC (x y : Int) : Int :=
  if iat a x < iat b x ∧ ¬ iat a y < iat b y then -1 else if iat a y < iat b y ∧ ¬ iat a x < iat b x then 1
  else if iat a x < iat b x then cmpI (iat a x) (iat a y) else cmpI (iat b y) (iat b x)
theorem johnC_neg (x y : Int) : johnC a b x y < 0 ↔ (iat a x < iat b x ∧ ¬ iat a y < iat b y) ∨ (iat a x < iat b x ∧ iat a y < iat b y ∧ iat a x < iat a y) ∨ (¬ iat a x < iat b x ∧ ¬ iat a y < iat b y ∧ iat b y < iat b x) := by
  unfold johnC
  split
  · simp; omega
  split
  · simp; omega
  split <;> rw [cmpI_neg] <;> omega
theorem john_swo : Swo (johnC a b) where
  asymm x y := by rw [johnC_neg, johnC_neg]; omega
  neg x y z := by rw [johnC_neg, johnC_neg, johnC_neg]; omega
theorem john_le {x y : Int} (h : leOf (johnC a b) x y) : Before a b x y := by
  have := h.1
  rw [johnC_neg] at this
  unfold Before
  omega
end
end Go.Proofs.YtpklcjbdmikbdaaGreat
namespace Go.Proofs.YtpklcjbdmikbdaaGreat

theorem len_of_sub {α : Type} [DecidableEq α] {a b : List α} (h : a.Nodup) (hs : ∀ i ∈ a, i ∈ b) : a.length ≤ b.length := by
  induction a generalizing b with
  | nil => simp
  | cons x a ih =>
    rw [List.nodup_cons] at h
    have hx : x ∈ b := hs x (by simp)
    have h1 := ih (b := b.erase x) h.2 (fun i hi => by
      have hne : i ≠ x := fun e => h.1 (e ▸ hi)
      exact (List.mem_erase_of_ne hne).2 (hs i (by simp [hi])))
    rw [List.length_erase_of_mem hx] at h1
    have : 0 < b.length := List.length_pos_of_mem hx
    simp
    omega

/-- A pairing: shafts of A, holes of B. -/
structure Mat (F : Nat → Nat → Prop) (A B : Nat → Prop) (M : List (Nat × Nat)) : Prop where
  one : (M.map Prod.fst).Nodup
  two : (M.map Prod.snd).Nodup
  ok : ∀ e ∈ M, A e.1 ∧ B e.2 ∧ F e.1 e.2
/-- The greatest number of pairs is n. -/
def Mx (F : Nat → Nat → Prop) (A B : Nat → Prop) (n : Nat) : Prop := (∃ M, Mat F A B M ∧ M.length = n) ∧ ∀ M, Mat F A B M → M.length ≤ n

section
variable {F : Nat → Nat → Prop} {A B : Nat → Prop}

theorem Mx.uniq {n m : Nat} (h : Mx F A B n) (h' : Mx F A B m) : n = m := by
  obtain ⟨⟨M, h1, h2⟩, h3⟩ := h
  obtain ⟨⟨M', h1', h2'⟩, h3'⟩ := h'
  have a := h3 M' h1'
  have b := h3' M h1
  omega
theorem Mat.nil : Mat F A B [] := ⟨by simp, by simp, by simp⟩
theorem Mat.mono {A' B' : Nat → Prop} {F' : Nat → Nat → Prop} {M : List (Nat × Nat)} (h : Mat F A B M) (hA : ∀ e ∈ M, A' e.1 ∧ B' e.2 ∧ F' e.1 e.2) : Mat F' A' B' M := ⟨h.one, h.two, hA⟩
theorem Mat.sub {M M' : List (Nat × Nat)} (h : Mat F A B M) (hs : M'.Sublist M) : Mat F A B M' :=
  ⟨(hs.map _).nodup h.one, (hs.map _).nodup h.two, fun e he => h.ok e (hs.subset he)⟩
theorem Mx.congr {A' B' : Nat → Prop} {F' : Nat → Nat → Prop} {n : Nat} (h : Mx F A B n) (hA : ∀ x k, (A x ∧ B k ∧ F x k) ↔ (A' x ∧ B' k ∧ F' x k)) : Mx F' A' B' n := by
  obtain ⟨⟨M, h1, h2⟩, h3⟩ := h
  exact ⟨⟨M, h1.mono fun e he => (hA _ _).1 (h1.ok e he), h2⟩, fun M' h' => h3 M' (h'.mono fun e he => (hA _ _).2 (h'.ok e he))⟩
theorem Mat.fst_eq {M : List (Nat × Nat)} (h : Mat F A B M) {e e' : Nat × Nat} (he : e ∈ M) (he' : e' ∈ M) (hh : e.1 = e'.1) : e = e' := by
  have := h.one
  clear h
  induction M with
  | nil => cases he
  | cons a M ih =>
    rw [List.map_cons, List.nodup_cons] at this
    rcases List.mem_cons.1 he with rfl | he1
    · rcases List.mem_cons.1 he' with rfl | he2
      · rfl
      · exact absurd (List.mem_map.2 ⟨e', he2, hh.symm⟩) this.1
    · rcases List.mem_cons.1 he' with rfl | he2
      · exact absurd (List.mem_map.2 ⟨e, he1, hh⟩) this.1
      · exact ih he1 he2 this.2
theorem Mat.snd_eq {M : List (Nat × Nat)} (h : Mat F A B M) {e e' : Nat × Nat} (he : e ∈ M) (he' : e' ∈ M) (hh : e.2 = e'.2) : e = e' := by
  have := h.two
  clear h
  induction M with
  | nil => cases he
  | cons a M ih =>
    rw [List.map_cons, List.nodup_cons] at this
    rcases List.mem_cons.1 he with rfl | he1
    · rcases List.mem_cons.1 he' with rfl | he2
      · rfl
      · exact absurd (List.mem_map.2 ⟨e', he2, hh.symm⟩) this.1
    · rcases List.mem_cons.1 he' with rfl | he2
      · exact absurd (List.mem_map.2 ⟨e, he1, hh⟩) this.1
      · exact ih he1 he2 this.2
theorem Mat.cons {M : List (Nat × Nat)} {x k : Nat} (h : Mat F A B M) (hx : ∀ e ∈ M, e.1 ≠ x) (hk : ∀ e ∈ M, e.2 ≠ k) (hA : A x) (hB : B k) (hF : F x k) : Mat F A B ((x, k) :: M) :=
  ⟨by
    rw [List.map_cons, List.nodup_cons]
    refine ⟨fun hm => ?_, h.one⟩
    obtain ⟨e, he, h1⟩ := List.mem_map.1 hm
    exact hx e he h1,
  by
    rw [List.map_cons, List.nodup_cons]
    refine ⟨fun hm => ?_, h.two⟩
    obtain ⟨e, he, h1⟩ := List.mem_map.1 hm
    exact hk e he h1,
  fun e he => by
    rcases List.mem_cons.1 he with rfl | he
    · exact ⟨hA, hB, hF⟩
    · exact h.ok e he⟩
/-- At most one pair has a given property, if the pairs that have it are the same. -/
theorem filter_one {M : List (Nat × Nat)} (hn : M.Nodup) (p : Nat × Nat → Bool) (h : ∀ e ∈ M, ∀ e' ∈ M, p e = true → p e' = true → e = e') : (M.filter p).length ≤ 1 := by
  match hm : M.filter p with
  | [] => simp
  | [a] => simp
  | a :: b :: r =>
    have ha : a ∈ M.filter p := by rw [hm]; simp
    have hb : b ∈ M.filter p := by rw [hm]; simp
    have e := h a (List.mem_filter.1 ha).1 b (List.mem_filter.1 hb).1 (List.mem_filter.1 ha).2 (List.mem_filter.1 hb).2
    have hnd : (M.filter p).Nodup := List.filter_sublist.nodup hn
    rw [hm, e] at hnd
    simp at hnd
theorem Mat.nodup {M : List (Nat × Nat)} (h : Mat F A B M) : M.Nodup := by
  have := h.one
  clear h
  induction M with
  | nil => exact List.nodup_nil
  | cons a M ih =>
    rw [List.map_cons, List.nodup_cons] at this
    rw [List.nodup_cons]
    exact ⟨fun hm => this.1 (List.mem_map.2 ⟨a, hm, rfl⟩), ih this.2⟩
theorem filter_split {α : Type} (M : List α) (p : α → Bool) : M.length = (M.filter p).length + (M.filter fun e => !p e).length := by
  induction M with
  | nil => simp
  | cons a M ih =>
    simp only [List.filter_cons, List.length_cons]
    cases h : p a <;> simp <;> omega
theorem Mat.drop_fst {M : List (Nat × Nat)} (h : Mat F A B M) (x : Nat) : M.length ≤ (M.filter fun e => !(e.1 == x)).length + 1 := by
  have h1 := filter_split M (fun e => e.1 == x)
  have h2 := filter_one h.nodup (fun e => e.1 == x) (fun e he e' he' h1 h2 => h.fst_eq he he' ((by simpa using h1 : e.1 = x).trans (by simpa using h2 : e'.1 = x).symm))
  omega
theorem Mat.drop_snd {M : List (Nat × Nat)} (h : Mat F A B M) (x : Nat) : M.length ≤ (M.filter fun e => !(e.2 == x)).length + 1 := by
  have h1 := filter_split M (fun e => e.2 == x)
  have h2 := filter_one h.nodup (fun e => e.2 == x) (fun e he e' he' h1 h2 => h.snd_eq he he' ((by simpa using h1 : e.2 = x).trans (by simpa using h2 : e'.2 = x).symm))
  omega
theorem Mat.filter {M : List (Nat × Nat)} (h : Mat F A B M) (p : Nat × Nat → Bool) : Mat F A B (M.filter p) := h.sub List.filter_sublist

/-- A shaft more: at most one pair more. -/
theorem Mx.grow {A' : Nat → Prop} {n i : Nat} (h : Mx F A B n) (hA : ∀ x, A' x ↔ A x ∨ x = i) {M : List (Nat × Nat)} (hM : Mat F A' B M) (hl : M.length = n + 1) : Mx F A' B (n + 1) := by
  refine ⟨⟨M, hM, hl⟩, fun M' h' => ?_⟩
  have h1 := h'.drop_fst i
  have h2 := h.2 _ ((h'.filter (fun e => !(e.1 == i))).mono fun e he => by
    obtain ⟨h3, h4⟩ := List.mem_filter.1 he
    obtain ⟨h5, h6⟩ := h'.ok e h3
    rcases (hA _).1 h5 with h7 | h7
    · exact ⟨h7, h6⟩
    · rw [h7] at h4; simp at h4)
  omega
/-- A search that fails: the holes that were seen are all taken, by shafts that fit seen holes alone; so does the new shaft. -/
theorem Mx.fail {A' : Nat → Prop} {n i : Nat} (h : Mx F A B n) (hA : ∀ x, A' x ↔ A x ∨ x = i) {M : List (Nat × Nat)} (hM : Mat F A B M) (hl : M.length = n) (S : Nat → Bool)
    (h1 : ∀ k, B k → S k = true → ∃ x, (x, k) ∈ M) (h2 : ∀ e ∈ M, S e.2 = true → ∀ k, B k → F e.1 k → S k = true) (h3 : ∀ k, B k → F i k → S k = true) : Mx F A' B n := by
  refine ⟨⟨M, hM.mono fun e he => ⟨(hA _).2 (.inl (hM.ok e he).1), (hM.ok e he).2⟩, hl⟩, fun M' h' => ?_⟩
  have hp := hM.filter (fun e => S e.2)
  have hq := h'.filter (fun e => !(S e.2))
  have hall : Mat F A B (M.filter (fun e => S e.2) ++ M'.filter (fun e => !(S e.2))) := by
    refine ⟨?_, ?_, ?_⟩
    · rw [List.map_append, List.nodup_append]
      refine ⟨hp.one, hq.one, ?_⟩
      intro a ha b hb e
      obtain ⟨c, hc, rfl⟩ := List.mem_map.1 ha
      obtain ⟨d, hd, rfl⟩ := List.mem_map.1 hb
      obtain ⟨hc1, hc2⟩ := List.mem_filter.1 hc
      obtain ⟨hd1, hd2⟩ := List.mem_filter.1 hd
      have h5 := h'.ok d hd1
      have := h2 c hc1 (by simpa using hc2) d.2 h5.2.1 (by rw [e]; exact h5.2.2)
      rw [this] at hd2
      simp at hd2
    · rw [List.map_append, List.nodup_append]
      refine ⟨hp.two, hq.two, ?_⟩
      intro a ha b hb e
      obtain ⟨c, hc, rfl⟩ := List.mem_map.1 ha
      obtain ⟨d, hd, rfl⟩ := List.mem_map.1 hb
      obtain ⟨hc1, hc2⟩ := List.mem_filter.1 hc
      obtain ⟨hd1, hd2⟩ := List.mem_filter.1 hd
      rw [← e] at hd2
      rw [(by simpa using hc2 : S c.2 = true)] at hd2
      simp at hd2
    · intro e he
      rcases List.mem_append.1 he with he | he
      · exact hp.ok e he
      · obtain ⟨hd1, hd2⟩ := List.mem_filter.1 he
        obtain ⟨h5, h6⟩ := h'.ok e hd1
        rcases (hA _).1 h5 with h7 | h7
        · exact ⟨h7, h6⟩
        · have := h3 e.2 h6.1 (by rw [← h7]; exact h6.2)
          rw [this] at hd2
          simp at hd2
  have hle := h.2 _ hall
  have hs := filter_split M' (fun e => S e.2)
  have hle2 := len_of_sub (h'.filter (fun e => S e.2)).two (b := (M.filter (fun e => S e.2)).map Prod.snd) (fun k hk => by
    obtain ⟨e, he, rfl⟩ := List.mem_map.1 hk
    obtain ⟨hd1, hd2⟩ := List.mem_filter.1 he
    obtain ⟨x, hx⟩ := h1 e.2 (h'.ok e hd1).2.1 (by simpa using hd2)
    exact List.mem_map.2 ⟨_, List.mem_filter.2 ⟨hx, by simpa using hd2⟩, rfl⟩)
  rw [List.length_map, List.length_map] at hle2
  rw [List.length_append] at hle
  omega
/-- A hole that no shaft fits. -/
theorem Mx.skip {B' : Nat → Prop} {n k : Nat} (h : Mx F A B n) (hB : ∀ x, B' x ↔ B x ∨ x = k) (hk : ∀ x, A x → ¬ F x k) : Mx F A B' n := by
  refine ⟨?_, fun M' h' => h.2 M' (h'.mono fun e he => ?_)⟩
  · obtain ⟨M, h1, h2⟩ := h.1
    exact ⟨M, h1.mono fun e he => ⟨(h1.ok e he).1, (hB _).2 (.inl (h1.ok e he).2.1), (h1.ok e he).2.2⟩, h2⟩
  · obtain ⟨h5, h6, h7⟩ := h'.ok e he
    rcases (hB _).1 h6 with h8 | h8
    · exact ⟨h5, h8, h7⟩
    · rw [h8] at h7; exact absurd h7 (hk _ h5)
/-- A pair that may be taken first: whoever else fits the hole fits what the shaft fits. -/
theorem Mx.take {A' B' : Nat → Prop} {n b k : Nat} (h : Mx F A B n) (hA : ∀ x, A' x ↔ A x ∨ x = b) (hB : ∀ x, B' x ↔ B x ∨ x = k) (hb : ¬ A b) (hk : ¬ B k) (hF : F b k)
    (hx : ∀ x, A' x → F x k → ∀ h, B h → F b h → F x h) : Mx F A' B' (n + 1) := by
  constructor
  · obtain ⟨M, h1, h2⟩ := h.1
    refine ⟨(b, k) :: M, Mat.cons (h1.mono fun e he => ⟨(hA _).2 (.inl (h1.ok e he).1), (hB _).2 (.inl (h1.ok e he).2.1), (h1.ok e he).2.2⟩) (fun e he e1 => hb (e1 ▸ (h1.ok e he).1)) (fun e he e1 => hk (e1 ▸ (h1.ok e he).2.1)) ((hA _).2 (.inr rfl)) ((hB _).2 (.inr rfl)) hF, by simp [h2]⟩
  · intro M' h'
    have hf := h'.filter (fun e => !(e.1 == b))
    have hg := hf.filter (fun e => !(e.2 == k))
    have hgm : Mat F A B ((M'.filter fun e => !(e.1 == b)).filter fun e => !(e.2 == k)) := hg.mono fun e he => by
      obtain ⟨he1, he2⟩ := List.mem_filter.1 he
      obtain ⟨he3, he4⟩ := List.mem_filter.1 he1
      obtain ⟨h5, h6, h7⟩ := h'.ok e he3
      refine ⟨?_, ?_, h7⟩
      · rcases (hA _).1 h5 with h8 | h8
        · exact h8
        · rw [h8] at he4; simp at he4
      · rcases (hB _).1 h6 with h8 | h8
        · exact h8
        · rw [h8] at he2; simp at he2
    have c1 := h'.drop_fst b
    have c2 := hf.drop_snd k
    by_cases hbx : ∃ h', (b, h') ∈ M'
    · by_cases hkx : ∃ x, (x, k) ∈ M'
      · obtain ⟨h0, hm1⟩ := hbx
        obtain ⟨x0, hm2⟩ := hkx
        by_cases hsame : x0 = b
        · -- the pair itself: nothing else has the hole
          subst hsame
          have : ((M'.filter fun e => !(e.1 == x0)).filter fun e => !(e.2 == k)) = M'.filter fun e => !(e.1 == x0) := by
            apply List.filter_eq_self.2
            intro e he
            obtain ⟨he1, he2⟩ := List.mem_filter.1 he
            have : e.2 ≠ k := fun e1 => by
              have := h'.snd_eq he1 hm2 e1
              rw [this] at he2
              simp at he2
            simpa using this
          rw [this] at hgm
          have := h.2 _ hgm
          omega
        · have hne : h0 ≠ k := fun e1 => hsame (by
            have := h'.snd_eq hm1 hm2 e1
            exact (congrArg Prod.fst this).symm)
          have ok1 := h'.ok _ hm1
          have ok2 := h'.ok _ hm2
          have hB0 : B h0 := by
            rcases (hB _).1 ok1.2.1 with h8 | h8
            · exact h8
            · exact absurd h8 hne
          have hA0 : A x0 := by
            rcases (hA _).1 ok2.1 with h8 | h8
            · exact h8
            · exact absurd h8 hsame
          have hnew := Mat.cons (x := x0) (k := h0) hgm (fun e he e1 => by
              obtain ⟨he1, he2⟩ := List.mem_filter.1 he
              obtain ⟨he3, he4⟩ := List.mem_filter.1 he1
              have := h'.fst_eq he3 hm2 e1
              rw [this] at he2
              simp at he2) (fun e he e1 => by
              obtain ⟨he1, he2⟩ := List.mem_filter.1 he
              obtain ⟨he3, he4⟩ := List.mem_filter.1 he1
              have := h'.snd_eq he3 hm1 e1
              rw [this] at he4
              simp at he4) hA0 hB0 (hx x0 ok2.1 ok2.2.2 h0 hB0 ok1.2.2)
          have := h.2 _ hnew
          simp at this
          simp at c2
          omega
      · have : ((M'.filter fun e => !(e.1 == b)).filter fun e => !(e.2 == k)) = M'.filter fun e => !(e.1 == b) := by
          apply List.filter_eq_self.2
          intro e he
          obtain ⟨he1, he2⟩ := List.mem_filter.1 he
          have : e.2 ≠ k := fun e1 => hkx ⟨e.1, by rw [← e1]; exact he1⟩
          simpa using this
        rw [this] at hgm
        have := h.2 _ hgm
        omega
    · have : (M'.filter fun e => !(e.1 == b)) = M' := by
        apply List.filter_eq_self.2
        intro e he
        have : e.1 ≠ b := fun e1 => hbx ⟨e.2, by rw [← e1]; exact he⟩
        simpa using this
      rw [this] at hgm c2
      have := h.2 _ hgm
      omega
theorem Mx.none {n : Nat} (h : ∀ x k, A x → B k → ¬ F x k) (hn : n = 0) : Mx F A B n := by
  subst hn
  refine ⟨⟨[], Mat.nil, rfl⟩, fun M h' => ?_⟩
  cases M with
  | nil => simp
  | cons e M =>
    have := h'.ok e (by simp)
    exact absurd this.2.2 (h _ _ this.1 this.2.1)
/-- The numbers of a pair taken first: if the rest has one less, it is right. -/
theorem Mx.less {A' B' : Nat → Prop} {n b k : Nat} (h : Mx F A' B' (n + 1)) (hA : ∀ x, A' x ↔ A x ∨ x = b) (hB : ∀ x, B' x ↔ B x ∨ x = k) (hb : ¬ A b) (hk : ¬ B k) (hF : F b k)
    {M : List (Nat × Nat)} (hM : Mat F A B M) (hl : n ≤ M.length) : Mx F A B n ∧ M.length = n := by
  have up : ∀ M, Mat F A B M → M.length ≤ n := fun M' h' => by
    have := h.2 _ (Mat.cons (x := b) (k := k) (h'.mono fun e he => ⟨(hA _).2 (.inl (h'.ok e he).1), (hB _).2 (.inl (h'.ok e he).2.1), (h'.ok e he).2.2⟩) (fun e he e1 => hb (e1 ▸ (h'.ok e he).1)) (fun e he e1 => hk (e1 ▸ (h'.ok e he).2.1)) ((hA _).2 (.inr rfl)) ((hB _).2 (.inr rfl)) hF)
    simp at this
    omega
  have := up M hM
  exact ⟨⟨⟨M, hM, by omega⟩, up⟩, by omega⟩
end
end Go.Proofs.YtpklcjbdmikbdaaGreat
namespace Go.Proofs.YtpklcjbdmikbdaaGreat

/-- Pairs on the holes of U: no shaft twice, and all fit. -/
structure Fine (F : Nat → Nat → Prop) (U : Nat → Prop) (o : List Int) : Prop where
  inj : ∀ (k h x : Nat), U k → U h → o[k]? = some (x : Int) → o[h]? = some (x : Int) → k = h
  fit : ∀ (k x : Nat), U k → o[k]? = some (x : Int) → F x k
def cnt (o : List Int) : Nat := (o.filter fun v => decide (0 ≤ v)).length
theorem cnt_set {o : List Int} {k : Nat} {v x : Int} (h : o[k]? = some v) (hx : 0 ≤ x) : cnt (o.set k x) = cnt o + (if v < 0 then 1 else 0) := by
  unfold cnt
  induction o generalizing k with
  | nil => simp at h
  | cons a o ih =>
    cases k with
    | zero =>
      simp at h
      subst h
      simp only [List.set_cons_zero, List.filter_cons, hx, decide_true, if_true]
      by_cases h0 : 0 ≤ a
      · simp [h0, show ¬ a < 0 by omega]
      · simp [h0, show a < 0 by omega]
    | succ k =>
      simp at h
      have := ih h
      simp only [List.set_cons_succ, List.filter_cons]
      split <;> simp [this] <;> omega
/-- A search that succeeded, on the holes of U: shaft i has a hole more; o became q. -/
structure Grew (F : Nat → Nat → Prop) (U : Nat → Prop) (o : List Int) (i : Nat) (q : List Int) : Prop where
  len : q.length = o.length
  same : ∀ k, ¬ U k → q[k]? = o[k]?
  fine : Fine F U q
  img : ∀ x : Nat, (∃ k, U k ∧ q[k]? = some (x : Int)) ↔ x = i ∨ ∃ k, U k ∧ o[k]? = some (x : Int)
  cnt : cnt q = cnt o + 1
section
variable {F : Nat → Nat → Prop} {U : Nat → Prop} {o q : List Int} {i k : Nat}
theorem Fine.sub {U' : Nat → Prop} (h : Fine F U o) (hs : ∀ k, U' k → U k) : Fine F U' o := ⟨fun k h' x a b => h.inj k h' x (hs _ a) (hs _ b), fun k x a => h.fit k x (hs _ a)⟩
theorem Grew.here {v : Int} (hk : U k) (hF : F i k) (hv : o[k]? = some v) (h0 : v < 0) (h : Fine F U o) (hi : ∀ k, U k → o[k]? ≠ some (i : Int)) : Grew F U o i (o.set k i) := by
  have hlt : k < o.length := (List.getElem?_eq_some_iff.1 hv).1
  have hat : ∀ j, (o.set k (i : Int))[j]? = if k = j then some (i : Int) else o[j]? := fun j => by
    rw [List.getElem?_set]
    split
    · rename_i e; subst e; rfl
    · rfl
  refine ⟨by simp, fun j hj => ?_, ⟨fun a b x ha hb hx hy => ?_, fun a x ha hx => ?_⟩, fun x => ⟨fun ⟨a, ha, hx⟩ => ?_, fun hx => ?_⟩, ?_⟩
  · rw [hat, if_neg (by rintro rfl; exact hj hk)]
  · rw [hat] at hx hy
    by_cases e1 : k = a
    · by_cases e2 : k = b
      · omega
      · rw [if_pos e1] at hx
        rw [if_neg e2, ← hx] at hy
        exact absurd hy (hi b hb)
    · by_cases e2 : k = b
      · rw [if_pos e2] at hy
        rw [if_neg e1, ← hy] at hx
        exact absurd hx (hi a ha)
      · rw [if_neg e1] at hx
        rw [if_neg e2] at hy
        exact h.inj a b x ha hb hx hy
  · rw [hat] at hx
    by_cases e1 : k = a
    · rw [if_pos e1] at hx
      have : i = x := by have := Option.some.inj hx; omega
      rw [← this, ← e1]; exact hF
    · rw [if_neg e1] at hx
      exact h.fit a x ha hx
  · rw [hat] at hx
    by_cases e1 : k = a
    · rw [if_pos e1] at hx
      have : i = x := by have := Option.some.inj hx; omega
      exact .inl this.symm
    · rw [if_neg e1] at hx
      exact .inr ⟨a, ha, hx⟩
  · rcases hx with rfl | ⟨a, ha, hx⟩
    · exact ⟨k, hk, by rw [hat, if_pos rfl]⟩
    · refine ⟨a, ha, ?_⟩
      rw [hat, if_neg]
      · exact hx
      · rintro rfl
        rw [hv] at hx
        simp at hx
        omega
  · rw [cnt_set hv (by omega), if_pos h0]
theorem Grew.on {x : Nat} (hk : U k) (hF : F i k) (hv : o[k]? = some (x : Int)) (_h : Fine F U o) (hi : ∀ k, U k → o[k]? ≠ some (i : Int)) (hg : Grew F (fun j => U j ∧ j ≠ k) o x q) : Grew F U o i (q.set k i) := by
  have hvq : q[k]? = some (x : Int) := by rw [hg.same k (by simp)]; exact hv
  have hlt : k < q.length := (List.getElem?_eq_some_iff.1 hvq).1
  have hat : ∀ j, (q.set k (i : Int))[j]? = if k = j then some (i : Int) else q[j]? := fun j => by
    rw [List.getElem?_set]
    split
    · rename_i e; subst e; rfl
    · rfl
  have hix : i ≠ x := fun e => hi k hk (by rw [hv, e])
  have hnot : ∀ j, U j → j ≠ k → q[j]? ≠ some (i : Int) := fun j hj hne hq => by
    rcases (hg.img i).1 ⟨j, ⟨hj, hne⟩, hq⟩ with h1 | ⟨a, ha, h1⟩
    · exact hix h1
    · exact hi a ha.1 h1
  refine ⟨by simp [hg.len], fun j hj => ?_, ⟨fun a b y ha hb hx hy => ?_, fun a y ha hx => ?_⟩, fun y => ⟨fun ⟨a, ha, hx⟩ => ?_, fun hx => ?_⟩, ?_⟩
  · rw [hat, if_neg (by rintro rfl; exact hj hk)]
    exact hg.same j (fun hh => hj hh.1)
  · rw [hat] at hx hy
    by_cases e1 : k = a
    · by_cases e2 : k = b
      · omega
      · rw [if_pos e1] at hx
        rw [if_neg e2, ← hx] at hy
        exact absurd hy (hnot b hb (Ne.symm e2))
    · by_cases e2 : k = b
      · rw [if_pos e2] at hy
        rw [if_neg e1, ← hy] at hx
        exact absurd hx (hnot a ha (Ne.symm e1))
      · rw [if_neg e1] at hx
        rw [if_neg e2] at hy
        exact hg.fine.inj a b y ⟨ha, Ne.symm e1⟩ ⟨hb, Ne.symm e2⟩ hx hy
  · rw [hat] at hx
    by_cases e1 : k = a
    · rw [if_pos e1] at hx
      have : i = y := by have := Option.some.inj hx; omega
      rw [← this, ← e1]; exact hF
    · rw [if_neg e1] at hx
      exact hg.fine.fit a y ⟨ha, Ne.symm e1⟩ hx
  · rw [hat] at hx
    by_cases e1 : k = a
    · rw [if_pos e1] at hx
      have : i = y := by have := Option.some.inj hx; omega
      exact .inl this.symm
    · rw [if_neg e1] at hx
      rcases (hg.img y).1 ⟨a, ⟨ha, Ne.symm e1⟩, hx⟩ with h1 | ⟨b, hb, h1⟩
      · exact .inr ⟨k, hk, by rw [hv, h1]⟩
      · exact .inr ⟨b, hb.1, h1⟩
  · rcases hx with rfl | ⟨a, ha, hx⟩
    · exact ⟨k, hk, by rw [hat, if_pos rfl]⟩
    · have : ∃ b, (U b ∧ b ≠ k) ∧ q[b]? = some (y : Int) := by
        apply (hg.img y).2
        by_cases e : a = k
        · subst e
          rw [hv] at hx
          exact .inl (by have := Option.some.inj hx; omega)
        · exact .inr ⟨a, ⟨ha, e⟩, hx⟩
      obtain ⟨b, hb, hq⟩ := this
      exact ⟨b, hb.1, by rw [hat, if_neg (Ne.symm hb.2)]; exact hq⟩
  · rw [cnt_set hvq (by omega), if_neg (by omega), hg.cnt]
theorem Grew.wide {U' : Nat → Prop} (hs : ∀ k, U' k → U k) (h : Fine F U o) (hi : ∀ k, U k → o[k]? ≠ some (i : Int)) (hg : Grew F U' o i q) : Grew F U o i q := by
  refine ⟨hg.len, fun j hj => hg.same j (fun hh => hj (hs _ hh)), ⟨fun a b y ha hb hx hy => ?_, fun a y ha hx => ?_⟩, fun y => ⟨fun ⟨a, ha, hx⟩ => ?_, fun hx => ?_⟩, hg.cnt⟩
  · by_cases e1 : U' a
    · by_cases e2 : U' b
      · exact hg.fine.inj a b y e1 e2 hx hy
      · rw [hg.same b e2] at hy
        rcases (hg.img y).1 ⟨a, e1, hx⟩ with h1 | ⟨c, hc, h1⟩
        · exact absurd (h1 ▸ hy) (hi b hb)
        · have := h.inj c b y (hs _ hc) hb h1 hy
          exact absurd (this ▸ hc) e2
    · by_cases e2 : U' b
      · rw [hg.same a e1] at hx
        rcases (hg.img y).1 ⟨b, e2, hy⟩ with h1 | ⟨c, hc, h1⟩
        · exact absurd (h1 ▸ hx) (hi a ha)
        · have := h.inj c a y (hs _ hc) ha h1 hx
          exact absurd (this ▸ hc) e1
      · rw [hg.same a e1] at hx
        rw [hg.same b e2] at hy
        exact h.inj a b y ha hb hx hy
  · by_cases e1 : U' a
    · exact hg.fine.fit a y e1 hx
    · rw [hg.same a e1] at hx
      exact h.fit a y ha hx
  · by_cases e1 : U' a
    · rcases (hg.img y).1 ⟨a, e1, hx⟩ with h1 | ⟨c, hc, h1⟩
      · exact .inl h1
      · exact .inr ⟨c, hs _ hc, h1⟩
    · rw [hg.same a e1] at hx
      exact .inr ⟨a, ha, hx⟩
  · rcases hx with rfl | ⟨a, ha, hx⟩
    · obtain ⟨b, hb, h1⟩ := (hg.img y).2 (.inl rfl)
      exact ⟨b, hs _ hb, h1⟩
    · by_cases e1 : U' a
      · obtain ⟨b, hb, h1⟩ := (hg.img y).2 (.inr ⟨a, e1, hx⟩)
        exact ⟨b, hs _ hb, h1⟩
      · exact ⟨a, ha, by rw [hg.same a e1]; exact hx⟩
end

/-- A search that failed, or has failed so far: the holes before k. -/
structure ShutTo (F : Nat → Nat → Prop) (o : List Int) (i k : Nat) (s t : List Bool) : Prop where
  len : t.length = s.length
  more : ∀ h : Nat, s[h]? = some true → t[h]? = some true
  all : ∀ h : Nat, h < k → F i h → t[h]? = some true
  new : ∀ h : Nat, s[h]? = some false → t[h]? = some true → ∃ x : Nat, o[h]? = some (x : Int) ∧ ∀ g : Nat, F x g → t[g]? = some true
/-- A search that failed. -/
def Shut (F : Nat → Nat → Prop) (o : List Int) (i : Nat) (s t : List Bool) : Prop := ∀ k, ShutTo F o i k s t
section
variable {F : Nat → Nat → Prop} {o : List Int} {i k : Nat} {s t : List Bool}
theorem ShutTo.first (F : Nat → Nat → Prop) (o : List Int) (i : Nat) (s : List Bool) : ShutTo F o i 0 s s :=
  ⟨rfl, fun _ h => h, fun _ h => absurd h (by omega), fun h h1 h2 => by rw [h1] at h2; cases h2⟩
theorem ShutTo.skip (h : ShutTo F o i k s t) (hk : F i k → t[k]? = some true) : ShutTo F o i (k + 1) s t :=
  ⟨h.len, h.more, fun g hg hF => by
    by_cases e : g = k
    · subst e; exact hk hF
    · exact h.all g (by omega) hF, h.new⟩
theorem set_true {s : List Bool} {k : Nat} (hk : k < s.length) (h : Nat) : (s.set k true)[h]? = if k = h then some true else s[h]? := by
  rw [List.getElem?_set]
  split
  · rename_i e; subst e; simp
  · rfl
theorem ShutTo.next {x : Nat} {u : List Bool} (h : ShutTo F o i k s t) (hk : k < t.length) (hv : o[k]? = some (x : Int)) (hs : Shut F o x (t.set k true) u) : ShutTo F o i (k + 1) s u := by
  have h1 := hs 0
  have hmore : ∀ h : Nat, t[h]? = some true → u[h]? = some true := fun g hg => h1.more g (by rw [set_true hk]; split <;> first | rfl | exact hg)
  have hku : u[k]? = some true := h1.more k (by rw [set_true hk, if_pos rfl])
  refine ⟨by rw [h1.len]; simp [h.len], fun g hg => hmore g (h.more g hg), fun g hg hF => ?_, fun g hg hu => ?_⟩
  · by_cases e : g = k
    · subst e; exact hku
    · exact hmore g (h.all g (by omega) hF)
  · by_cases e : g = k
    · subst e
      exact ⟨x, hv, fun g' hF => (hs (g' + 1)).all g' (by omega) hF⟩
    · cases ht : t[g]? with
      | none =>
        have a1 := (List.getElem?_eq_some_iff.1 hg).1
        have a2 := List.getElem?_eq_none_iff.1 ht
        have := h.len
        omega
      | some b =>
        cases b with
        | true =>
          obtain ⟨y, hy, hc⟩ := h.new g hg ht
          exact ⟨y, hy, fun g' hF => hmore g' (hc g' hF)⟩
        | false => exact h1.new g (by rw [set_true hk, if_neg (Ne.symm e)]; exact ht) hu
theorem ShutTo.done (h : ShutTo F o i k s t) (hF : ∀ h, F i h → h < k) : Shut F o i s t := fun _ =>
  ⟨h.len, h.more, fun g _ hf => h.all g (hF g hf) hf, h.new⟩
/-- How many holes were not seen. -/
def dark (s : List Bool) : Nat := (s.filter fun b => !b).length
theorem dark_set {s : List Bool} {k : Nat} (h : s[k]? = some false) : dark (s.set k true) + 1 = dark s := by
  unfold dark
  induction s generalizing k with
  | nil => simp at h
  | cons a s ih =>
    cases k with
    | zero =>
      simp at h
      subst h
      simp
    | succ k =>
      simp at h
      have := ih h
      simp only [List.set_cons_succ, List.filter_cons]
      cases a <;> simp <;> omega
theorem dark_le {s t : List Bool} (hl : t.length = s.length) (h : ∀ h : Nat, s[h]? = some true → t[h]? = some true) : dark t ≤ dark s := by
  unfold dark
  induction s generalizing t with
  | nil => cases t with | nil => simp | cons => simp at hl
  | cons a s ih =>
    cases t with
    | nil => simp at hl
    | cons b t =>
      have := ih (t := t) (by simpa using hl) (fun g hg => by simpa using h (g + 1) (by simpa using hg))
      have h0 := h 0
      simp at h0
      simp only [List.filter_cons]
      cases a <;> cases b <;> simp at h0 ⊢ <;> omega
end

/-- The pairs of a row of holes. -/
def mateF : Nat → List Int → List (Nat × Nat)
  | _, [] => []
  | k, v :: o => if 0 ≤ v then (v.toNat, k) :: mateF (k + 1) o else mateF (k + 1) o
theorem mem_mate {x k : Nat} : ∀ {j : Nat} {o : List Int}, (x, k) ∈ mateF j o ↔ j ≤ k ∧ o[k - j]? = some (x : Int)
  | j, [] => by simp [mateF]
  | j, v :: o => by
    have ih := mem_mate (x := x) (k := k) (j := j + 1) (o := o)
    rcases Nat.lt_trichotomy k j with hk | rfl | hk
    · have : (x, k) ∉ mateF (j + 1) o := fun h => by have := (ih.1 h).1; omega
      simp only [mateF]
      split
      · simp [this]; omega
      · simp [this]; omega
    · have : (x, k) ∉ mateF (k + 1) o := fun h => by have := (ih.1 h).1; omega
      simp only [mateF]
      split
      · simp [this]; omega
      · simp [this]; omega
    · have e : (v :: o)[k - j]? = o[k - (j + 1)]? := by rw [show k - j = (k - (j + 1)) + 1 by omega, List.getElem?_cons_succ]
      rw [e]
      have : ((x, k) ∈ mateF j (v :: o)) ↔ (x, k) ∈ mateF (j + 1) o := by
        simp only [mateF]
        split
        · simp; intro _ h; omega
        · rfl
      rw [this, ih]
      exact ⟨fun h => ⟨by omega, h.2⟩, fun h => ⟨by omega, h.2⟩⟩
theorem mate_len : ∀ (j : Nat) (o : List Int), (mateF j o).length = cnt o
  | _, [] => rfl
  | j, v :: o => by
    have ih := mate_len (j + 1) o
    unfold cnt at ih ⊢
    simp only [mateF, List.filter_cons]
    by_cases h : 0 ≤ v <;> simp [h, ih]
theorem mate_snd {j : Nat} {o : List Int} : ((mateF j o).map Prod.snd).Nodup := by
  induction o generalizing j with
  | nil => simp [mateF]
  | cons v o ih =>
    simp only [mateF]
    split
    · rw [List.map_cons, List.nodup_cons]
      refine ⟨fun h => ?_, ih⟩
      obtain ⟨⟨x, k⟩, he, h1⟩ := List.mem_map.1 h
      have := (mem_mate.1 he).1
      simp at h1
      omega
    · exact ih
theorem nodup_of_inj {α β : Type} {f : α → β} {l : List α} (hn : l.Nodup) (h : ∀ a ∈ l, ∀ b ∈ l, f a = f b → a = b) : (l.map f).Nodup := by
  induction l with
  | nil => simp
  | cons a l ih =>
    rw [List.nodup_cons] at hn
    rw [List.map_cons, List.nodup_cons]
    refine ⟨fun hm => ?_, ih hn.2 fun b hb c hc => h b (by simp [hb]) c (by simp [hc])⟩
    obtain ⟨b, hb, e⟩ := List.mem_map.1 hm
    exact hn.1 (h b (by simp [hb]) a (by simp) e ▸ hb)
theorem mate_nodup {j : Nat} {o : List Int} : (mateF j o).Nodup := by
  have := mate_snd (j := j) (o := o)
  generalize mateF j o = l at this
  induction l with
  | nil => exact List.nodup_nil
  | cons a l ih =>
    rw [List.map_cons, List.nodup_cons] at this
    rw [List.nodup_cons]
    exact ⟨fun hm => this.1 (List.mem_map.2 ⟨a, hm, rfl⟩), ih this.2⟩
theorem mate_mat {F : Nat → Nat → Prop} {A B : Nat → Prop} {o : List Int} (h : Fine F B o) (hA : ∀ (k x : Nat), o[k]? = some (x : Int) → A x ∧ B k) : Mat F A B (mateF 0 o) := by
  refine ⟨nodup_of_inj mate_nodup fun a ha b hb e => ?_, mate_snd, fun e he => ?_⟩
  · obtain ⟨x, k⟩ := a
    obtain ⟨y, g⟩ := b
    obtain rfl : x = y := e
    have h1 := (mem_mate.1 ha).2
    have h2 := (mem_mate.1 hb).2
    simp only [Nat.sub_zero] at h1 h2
    have := h.inj k g x (hA _ _ h1).2 (hA _ _ h2).2 h1 h2
    rw [this]
  · obtain ⟨x, k⟩ := e
    have h1 := (mem_mate.1 he).2
    simp only [Nat.sub_zero] at h1
    exact ⟨(hA _ _ h1).1, (hA _ _ h1).2, h.fit k x (hA _ _ h1).2 h1⟩

/-- The pairing after the first i shafts: as many as can be. -/
structure Upto (F : Nat → Nat → Prop) (m i : Nat) (o : List Int) (n : Nat) : Prop where
  len : o.length = m
  fine : Fine F (· < m) o
  lt : ∀ (k x : Nat), o[k]? = some (x : Int) → x < i
  cnt : cnt o = n
  mx : Mx F (· < i) (· < m) n
section
variable {F : Nat → Nat → Prop} {m i n : Nat} {o q : List Int}
theorem Upto.mat (h : Upto F m i o n) : Mat F (· < i) (· < m) (mateF 0 o) := mate_mat h.fine fun k x hx => ⟨h.lt k x hx, by have := (List.getElem?_eq_some_iff.1 hx).1; have := h.len; omega⟩
theorem Upto.first (F : Nat → Nat → Prop) (m : Nat) : Upto F m 0 (List.replicate m (-1)) 0 := by
  have none : ∀ (k x : Nat), (List.replicate m (-1 : Int))[k]? ≠ some (x : Int) := fun k x h => by
    rw [List.getElem?_replicate] at h
    split at h
    · have := Option.some.inj h; omega
    · cases h
  refine ⟨by simp, ⟨fun k g x _ _ h => absurd h (none k x), fun k x _ h => absurd h (none k x)⟩, fun k x h => absurd h (none k x), ?_, Mx.none (fun x k h => absurd h (by omega)) rfl⟩
  unfold Proofs.YtpklcjbdmikbdaaGreat.cnt
  induction m with
  | zero => rfl
  | succ m ih => simp [List.replicate_succ]
theorem Upto.yes (h : Upto F m i o n) (hg : Grew F (· < m) o i q) : Upto F m (i + 1) q (n + 1) := by
  have hlt : ∀ (k x : Nat), q[k]? = some (x : Int) → x < i + 1 := fun k x hx => by
    have hk : k < m := by have := (List.getElem?_eq_some_iff.1 hx).1; have := hg.len; have := h.len; omega
    rcases (hg.img x).1 ⟨k, hk, hx⟩ with h1 | ⟨a, _, h1⟩
    · omega
    · have := h.lt a x h1; omega
  have hl : q.length = m := by rw [hg.len, h.len]
  refine ⟨hl, hg.fine, hlt, by rw [hg.cnt, h.cnt], ?_⟩
  refine h.mx.grow (i := i) (fun x => by omega) (M := mateF 0 q) (mate_mat hg.fine fun k x hx => ⟨hlt k x hx, by have := (List.getElem?_eq_some_iff.1 hx).1; omega⟩) ?_
  rw [mate_len, hg.cnt, h.cnt]
theorem Upto.no (h : Upto F m i o n) {s t : List Bool} (hs : s = List.replicate m false) (hg : Shut F o i s t) : Upto F m (i + 1) o n := by
  refine ⟨h.len, h.fine, fun k x hx => by have := h.lt k x hx; omega, h.cnt, ?_⟩
  have hall : ∀ g : Nat, g < m → s[g]? = some false := fun g hg => by rw [hs, List.getElem?_replicate, if_pos hg]
  refine h.mx.fail (i := i) (fun x => by omega) h.mat (by rw [mate_len, h.cnt]) (fun k => t[k]? == some true) ?_ ?_ ?_
  · intro k hk ht
    obtain ⟨x, hx, _⟩ := (hg 0).new k (hall k hk) (by simpa using ht)
    exact ⟨x, mem_mate.2 ⟨by omega, by simpa using hx⟩⟩
  · intro e he ht k hk hF
    obtain ⟨x, hx, hc⟩ := (hg 0).new e.2 (hall e.2 (h.mat.ok e he).2.1) (by simpa using ht)
    have h1 := (mem_mate.1 (show (e.1, e.2) ∈ mateF 0 o from he)).2
    simp only [Nat.sub_zero] at h1
    rw [h1] at hx
    have : e.1 = x := by have := Option.some.inj hx; omega
    simpa using hc k (by rw [← this]; exact hF)
  · intro k hk hF
    simpa using (hg (k + 1)).all k (by omega) hF
end
end Go.Proofs.YtpklcjbdmikbdaaGreat
namespace Go.Proofs.YtpklcjbdmikbdaaGreat

/-- A shaft fits a hole: the clearance. -/
def fitP (s h : List Int) (lo hi : Int) (x k : Nat) : Prop := x < s.length ∧ k < h.length ∧ lo ≤ h.getD k 0 - s.getD x 0 ∧ h.getD k 0 - s.getD x 0 ≤ hi
/-- The greedy choice so far: what is left has the rest. -/
def Greed (F : Nat → Nat → Prop) (A0 B0 A : Nat → Prop) (R : List Nat) (n : Nat) : Prop := ∀ N, Mx F A (fun k => k ∈ R ∧ B0 k) N → Mx F A0 B0 (n + N)
section
variable {F : Nat → Nat → Prop} {A0 B0 A : Nat → Prop} {k n : Nat} {R : List Nat}
theorem Greed.first (hR : ∀ k, B0 k → k ∈ R) : Greed F A0 B0 A0 R 0 := fun N h => by
  rw [Nat.zero_add]
  exact h.congr fun x k => ⟨fun ⟨a, b, c⟩ => ⟨a, b.2, c⟩, fun ⟨a, b, c⟩ => ⟨a, ⟨hR k b, b⟩, c⟩⟩
theorem Greed.taken (h : Greed F A0 B0 A (k :: R) n) (hk : ¬ B0 k) : Greed F A0 B0 A R n := fun N hN => h N (hN.congr fun x g => ⟨fun ⟨a, b, c⟩ => ⟨a, ⟨List.mem_cons_of_mem _ b.1, b.2⟩, c⟩, fun ⟨a, b, c⟩ => by
  rcases List.mem_cons.1 b.1 with rfl | h1
  · exact absurd b.2 hk
  · exact ⟨a, ⟨h1, b.2⟩, c⟩⟩)
theorem Greed.skip (h : Greed F A0 B0 A (k :: R) n) (hb : B0 k) (hk : ∀ x, A x → ¬ F x k) : Greed F A0 B0 A R n := fun N hN => h N (hN.skip (k := k) (fun x => by
  rw [List.mem_cons]
  constructor
  · rintro ⟨rfl | h1, h2⟩
    · exact .inr rfl
    · exact .inl ⟨h1, h2⟩
  · rintro (h1 | rfl)
    · exact ⟨.inr h1.1, h1.2⟩
    · exact ⟨.inl rfl, hb⟩) hk)
theorem Greed.take {A' : Nat → Prop} {b : Nat} (h : Greed F A0 B0 A (k :: R) n) (hb : B0 k) (hk : k ∉ R) (hA : ∀ x, A x ↔ A' x ∨ x = b) (hA' : ¬ A' b) (hF : F b k)
    (hx : ∀ x, A x → F x k → ∀ g ∈ R, F b g → F x g) : Greed F A0 B0 A' R (n + 1) := fun N hN => by
  rw [show n + 1 + N = n + (N + 1) by omega]
  refine h _ (hN.take (b := b) (k := k) hA (fun x => ?_) hA' (fun h1 => hk h1.1) hF (fun x h1 h2 g h3 h4 => hx x h1 h2 g h3.1 h4))
  rw [List.mem_cons]
  constructor
  · rintro ⟨rfl | h1, h2⟩
    · exact .inr rfl
    · exact .inl ⟨h1, h2⟩
  · rintro (h1 | rfl)
    · exact ⟨.inr h1.1, h1.2⟩
    · exact ⟨.inl rfl, hb⟩
theorem Greed.done (h : Greed F A0 B0 A [] n) : Mx F A0 B0 n := h 0 (Mx.none (fun x k _ hk => absurd hk.1 (by simp)) rfl)
end
/-- On intervals: the shaft that is the least of those that fit. -/
theorem fit_less {s h : List Int} {lo hi : Int} {b x k g : Nat} (h1 : fitP s h lo hi x k) (h2 : s.getD b 0 ≤ s.getD x 0) (h3 : h.getD k 0 ≤ h.getD g 0) (h4 : fitP s h lo hi b g) : fitP s h lo hi x g := by
  unfold fitP at *
  omega

/-- A hole that a shaft may take so that as many can be paired. -/
def Cand (F : Nat → Nat → Prop) (i : Nat) (B : Nat → Prop) (left k : Nat) : Prop := B k ∧ F i k ∧ 0 < left ∧ Mx F (fun x => i + 1 ≤ x) (fun h => B h ∧ h ≠ k) (left - 1)
/-- The choices of the first i shafts, each the first hole that serves. -/
inductive PairTo (F : Nat → Nat → Prop) (m n : Nat) : Nat → (Nat → Prop) → Nat → List Int → Prop
  | first (B : Nat → Prop) (hB : ∀ k, B k ↔ k < m) : PairTo F m n 0 B n []
  | hit {i : Nat} {B B' : Nat → Prop} {left k : Nat} {to : List Int} (h : PairTo F m n i B left to) (hc : Cand F i B left k) (hf : ∀ k', k' < k → ¬ Cand F i B left k') (hB : ∀ h, B' h ↔ B h ∧ h ≠ k) :
      PairTo F m n (i + 1) B' (left - 1) (to ++ [(k : Int)])
  | miss {i : Nat} {B : Nat → Prop} {left : Nat} {to : List Int} (h : PairTo F m n i B left to) (hf : ∀ k, ¬ Cand F i B left k) : PairTo F m n (i + 1) B left (to ++ [-1])
section
variable {F : Nat → Nat → Prop} {m n i left : Nat} {B : Nat → Prop} {to : List Int}
theorem Cand.congr {B' : Nat → Prop} {k : Nat} (h : Cand F i B left k) (hB : ∀ h, B h ↔ B' h) : Cand F i B' left k :=
  ⟨(hB k).1 h.1, h.2.1, h.2.2.1, h.2.2.2.congr fun x g => by rw [hB]⟩
theorem PairTo.mx (h0 : Mx F (fun _ => True) (· < m) n) (h : PairTo F m n i B left to) : Mx F (fun x => i ≤ x) B left := by
  induction h with
  | first B hB => exact h0.congr fun x k => by rw [hB]; simp
  | hit h hc hf hB ih => exact hc.2.2.2.congr fun x g => by rw [hB]
  | @miss i B left to h hf ih =>
    obtain ⟨⟨M, h1, h2⟩, h3⟩ := ih
    refine ⟨⟨M, h1.mono fun e he => ⟨?_, (h1.ok e he).2⟩, h2⟩, fun M' h' => h3 M' (h'.mono fun e he => ⟨Nat.le_of_succ_le (h'.ok e he).1, (h'.ok e he).2⟩)⟩
    have hge := (h1.ok e he).1
    rcases Nat.lt_or_ge i e.1 with hlt | hle
    · exact hlt
    · have e0 : e.1 = i := by omega
      have hpos : 0 < left := by rw [← h2]; exact List.length_pos_of_mem he
      have hmat : Mat F (fun x => i + 1 ≤ x) (fun h => B h ∧ h ≠ e.2) (M.filter fun d => !(d.1 == i)) := (h1.filter _).mono fun d hd => by
        obtain ⟨hd1, hd2⟩ := List.mem_filter.1 hd
        have hne : d.1 ≠ i := by simpa using hd2
        have := h1.ok d hd1
        refine ⟨by omega, ⟨this.2.1, fun e1 => ?_⟩, this.2.2⟩
        exact hne ((congrArg Prod.fst (h1.snd_eq hd1 he e1)).trans e0)
      have hd := h1.drop_fst i
      have hless := Mx.less (F := F) (A := fun x => i + 1 ≤ x) (B := fun h => B h ∧ h ≠ e.2) (A' := fun x => i ≤ x) (B' := B) (n := left - 1) (b := i) (k := e.2) (by rw [Nat.sub_add_cancel hpos]; exact ⟨⟨M, h1, h2⟩, h3⟩) (fun x => by omega)
        (fun x => by
          constructor
          · intro hx
            by_cases e1 : x = e.2
            · exact .inr e1
            · exact .inl ⟨hx, e1⟩
          · rintro (h5 | h5)
            · exact h5.1
            · rw [h5]; exact (h1.ok e he).2.1) (by omega) (by simp) (by have := (h1.ok e he).2.2; rw [e0] at this; exact this) hmat (by omega)
      exact absurd ⟨(h1.ok e he).2.1, by have := (h1.ok e he).2.2; rw [e0] at this; exact this, hpos, hless.1⟩ (hf e.2)
theorem PairTo.uniq (h : PairTo F m n i B left to) : ∀ {B' : Nat → Prop} {left' : Nat} {to' : List Int}, PairTo F m n i B' left' to' → to' = to ∧ left' = left ∧ ∀ k, B' k ↔ B k := by
  induction h with
  | first B hB =>
    intro B' left' to' h'
    cases h' with
    | first _ hB' => exact ⟨rfl, rfl, fun k => by rw [hB, hB']⟩
  | @hit i B B2 left k to h hc hf hB ih =>
    intro B' left' to' h'
    cases h' with
    | @hit _ B3 _ left3 k3 to3 h3 hc3 hf3 hB3 =>
      obtain ⟨rfl, rfl, hb⟩ := ih h3
      have e : k3 = k := by
        rcases Nat.lt_trichotomy k3 k with h5 | h5 | h5
        · exact absurd (hc3.congr hb) (hf _ h5)
        · exact h5
        · exact absurd (hc.congr fun h => (hb h).symm) (hf3 _ h5)
      subst e
      exact ⟨rfl, rfl, fun g => by rw [hB, hB3, hb]⟩
    | @miss _ B3 left3 to3 h3 hf3 =>
      obtain ⟨rfl, rfl, hb⟩ := ih h3
      exact absurd (hc.congr fun h => (hb h).symm) (hf3 _)
  | @miss i B left to h hf ih =>
    intro B' left' to' h'
    cases h' with
    | @hit _ B3 _ left3 k3 to3 h3 hc3 hf3 hB3 =>
      obtain ⟨rfl, rfl, hb⟩ := ih h3
      exact absurd (hc3.congr hb) (hf _)
    | @miss _ B3 left3 to3 h3 hf3 =>
      obtain ⟨rfl, rfl, hb⟩ := ih h3
      exact ⟨rfl, rfl, hb⟩
/-- A pairing as a list: of each shaft its hole, or -1. -/
structure PairL (F : Nat → Nat → Prop) (m : Nat) (to : List Int) : Prop where
  low : ∀ v ∈ to, -1 ≤ v
  fit : ∀ j k : Nat, to[j]? = some (k : Int) → F j k ∧ k < m
  inj : ∀ j j' k : Nat, to[j]? = some (k : Int) → to[j']? = some (k : Int) → j = j'
theorem snoc_get {to : List Int} {v : Int} {j : Nat} {x : Int} (h : (to ++ [v])[j]? = some x) : to[j]? = some x ∨ (j = to.length ∧ x = v) := by
  rcases Nat.lt_trichotomy j to.length with h1 | h1 | h1
  · rw [List.getElem?_append_left h1] at h
    exact .inl h
  · subst h1
    rw [List.getElem?_append_right (Nat.le_refl _)] at h
    simp at h
    exact .inr ⟨rfl, h.symm⟩
  · rw [List.getElem?_append_right (by omega), List.getElem?_eq_none (by simp; omega)] at h
    cases h
theorem PairTo.len (h : PairTo F m n i B left to) : to.length = i := by
  induction h <;> simp_all
theorem cnt_snoc (to : List Int) (v : Int) : cnt (to ++ [v]) = cnt to + (if 0 ≤ v then 1 else 0) := by
  unfold cnt
  rw [List.filter_append, List.length_append]
  by_cases h : 0 ≤ v <;> simp [h]
theorem PairTo.cnt_ (h : PairTo F m n i B left to) : left + cnt to = n := by
  induction h with
  | first => rfl
  | hit h hc hf hB ih => rw [cnt_snoc, if_pos (by omega)]; have := hc.2.2.1; omega
  | miss h hf ih => rw [cnt_snoc, if_neg (by omega)]; omega
theorem PairTo.used (h : PairTo F m n i B left to) (k : Nat) : B k ↔ k < m ∧ (k : Int) ∉ to := by
  induction h with
  | first B hB => simp [hB]
  | @hit i B B' left k' to h hc hf hB ih =>
    rw [hB, ih]
    simp only [List.mem_append, List.mem_singleton, not_or]
    constructor
    · rintro ⟨⟨h1, h2⟩, h3⟩; exact ⟨h1, h2, by omega⟩
    · rintro ⟨h1, h2, h3⟩; exact ⟨⟨h1, h2⟩, by omega⟩
  | miss h hf ih =>
    rw [ih]
    simp only [List.mem_append, List.mem_singleton, not_or]
    constructor
    · rintro ⟨h1, h2⟩; exact ⟨h1, h2, by omega⟩
    · rintro ⟨h1, h2, h3⟩; exact ⟨h1, h2⟩
theorem PairTo.ok (h : PairTo F m n i B left to) : PairL F m to := by
  induction h with
  | first => exact ⟨by simp, by simp, by simp⟩
  | @hit i B B' left k' to h hc hf hB ih =>
    have hl := h.len
    have hu := (h.used k').1 hc.1
    have hn : ∀ j : Nat, to[j]? ≠ some (k' : Int) := fun j hj => hu.2 (List.mem_of_getElem? hj)
    refine ⟨fun v hv => ?_, fun j k hk => ?_, fun j j' k hk hk' => ?_⟩
    · rcases List.mem_append.1 hv with h1 | h1
      · exact ih.low v h1
      · simp at h1; omega
    · rcases snoc_get hk with h1 | ⟨h1, h2⟩
      · exact ih.fit j k h1
      · rw [show j = i by omega, show k = k' by omega]; exact ⟨hc.2.1, hu.1⟩
    · rcases snoc_get hk with h1 | ⟨h1, h2⟩
      · rcases snoc_get hk' with h3 | ⟨h3, h4⟩
        · exact ih.inj j j' k h1 h3
        · exact absurd (h4 ▸ h1) (hn j)
      · rcases snoc_get hk' with h3 | ⟨h3, h4⟩
        · exact absurd (h2 ▸ h3) (hn j')
        · omega
  | @miss i B left to h hf ih =>
    refine ⟨fun v hv => ?_, fun j k hk => ?_, fun j j' k hk hk' => ?_⟩
    · rcases List.mem_append.1 hv with h1 | h1
      · exact ih.low v h1
      · simp at h1; omega
    · rcases snoc_get hk with h1 | ⟨h1, h2⟩
      · exact ih.fit j k h1
      · omega
    · rcases snoc_get hk with h1 | ⟨h1, h2⟩
      · rcases snoc_get hk' with h3 | ⟨h3, h4⟩
        · exact ih.inj j j' k h1 h3
        · omega
      · omega
end
/-- Lexicographically less, -1 behind all. -/
def lessL : List Int → List Int → Bool
  | a :: x, b :: y => if a = b then lessL x y else decide (b = -1) || (decide (a ≠ -1) && decide (a < b))
  | _, _ => false
theorem lessL_self : ∀ x : List Int, lessL x x = false
  | [] => rfl
  | a :: x => by simp [lessL, lessL_self x]
theorem lessL_snoc : ∀ (x y : List Int) (a b : Int), x.length = y.length → lessL (x ++ [a]) (y ++ [b]) = if x = y then (if a = b then false else decide (b = -1) || (decide (a ≠ -1) && decide (a < b))) else lessL x y
  | [], [], a, b, _ => by simp [lessL]
  | c :: x, d :: y, a, b, h => by
    have ih := lessL_snoc x y a b (by simpa using h)
    simp only [List.cons_append, lessL, List.cons.injEq]
    by_cases e : c = d
    · simp only [e, if_true, true_and]
      exact ih
    · simp [e]
  | [], _ :: _, _, _, h => by simp at h
  | _ :: _, [], _, _, h => by simp at h
/-- The pairs of a list. -/
theorem PairL.mat {F : Nat → Nat → Prop} {m : Nat} {o : List Int} (h : PairL F m o) {A B : Nat → Prop} (hA : ∀ j k : Nat, o[j]? = some (k : Int) → A j ∧ B k) : Mat F A B ((mateF 0 o).map fun e => (e.2, e.1)) := by
  have hm : ∀ e ∈ mateF 0 o, o[e.2]? = some (e.1 : Int) := fun e he => by
    have := (mem_mate.1 (show (e.1, e.2) ∈ mateF 0 o from he)).2
    simpa using this
  refine ⟨?_, ?_, fun e he => ?_⟩
  · rw [List.map_map]
    exact mate_snd (j := 0) (o := o)
  · rw [List.map_map]
    refine nodup_of_inj mate_nodup fun a ha b hb e => ?_
    have e' : a.1 = b.1 := e
    have h1 := hm a ha
    have h2 := hm b hb
    rw [← e'] at h2
    have := h.inj _ _ _ h1 h2
    exact Prod.ext e' this
  · obtain ⟨d, hd, rfl⟩ := List.mem_map.1 he
    have := hm d hd
    exact ⟨(hA _ _ this).1, (hA _ _ this).2, (h.fit _ _ this).1⟩
theorem cnt_take (o : List Int) (i : Nat) : cnt o = cnt (o.take i) + cnt (o.drop i) := by
  unfold cnt
  rw [← List.length_append, ← List.filter_append, List.take_append_drop]
theorem mate_drop (o : List Int) (i : Nat) : ((mateF 0 o).filter fun e => decide (i ≤ e.2)).length = cnt (o.drop i) := by
  have : ∀ (o : List Int) (j i : Nat), j ≤ i → (mateF j o).filter (fun e => decide (i ≤ e.2)) = mateF i (o.drop (i - j)) := by
    intro o
    induction o with
    | nil => intro j i _; simp [mateF]
    | cons v o ih =>
      intro j i hj
      rcases Nat.eq_or_lt_of_le hj with rfl | hlt
      · rw [Nat.sub_self, List.drop_zero]
        apply List.filter_eq_self.2
        intro e he
        have := (mem_mate.1 (show (e.1, e.2) ∈ _ from he)).1
        simpa using this
      · have := ih (j + 1) i hlt
        rw [show i - j = (i - (j + 1)) + 1 by omega, List.drop_succ_cons, ← this]
        simp only [mateF]
        split
        · rw [List.filter_cons, if_neg (by simp; omega)]
        · rfl
  rw [this o 0 i (Nat.zero_le _), mate_len, Nat.sub_zero]
/-- No pairing with as many pairs is less. -/
theorem PairTo.least {F : Nat → Nat → Prop} {m n i left : Nat} {B : Nat → Prop} {to : List Int} (h0 : Mx F (fun _ => True) (· < m) n) (h : PairTo F m n i B left to) {o : List Int} (ho : PairL F m o) (hn : cnt o = n) (hi : i ≤ o.length) :
    lessL (o.take i) to = false := by
  -- at a place where both begin alike, the other one's choice would serve too
  have key : ∀ {i left : Nat} {B : Nat → Prop} {to : List Int}, PairTo F m n i B left to → o.take i = to → ∀ k : Nat, o[i]? = some (k : Int) → Cand F i B left k := by
    intro i left B to h e k hk
    have hil : i < o.length := (List.getElem?_eq_some_iff.1 hk).1
    have hF := ho.fit i k hk
    have hB : B k := (h.used k).2 ⟨hF.2, fun hm => by
      rw [← e] at hm
      obtain ⟨j, hj⟩ := List.getElem?_of_mem hm
      rw [List.getElem?_take] at hj
      split at hj
      · have := ho.inj j i k hj hk; omega
      · cases hj⟩
    have hc := h.cnt_
    have ht := cnt_take o i
    rw [e] at ht
    have hd : o.drop i = (k : Int) :: o.drop (i + 1) := by
      rw [List.drop_eq_getElem_cons hil]
      congr 1
      have := List.getElem?_eq_getElem hil
      rw [this] at hk
      exact Option.some.inj hk
    have hd' : cnt (o.drop i) = cnt (o.drop (i + 1)) + 1 := by
      rw [hd]
      unfold cnt
      rw [List.filter_cons, if_pos (by simp), List.length_cons]
    have hpos : 0 < left := by omega
    have hM := (ho.mat (A := fun _ => True) (B := (· < m)) (fun j k hj => ⟨trivial, (ho.fit j k hj).2⟩)).filter (fun e => decide (i + 1 ≤ e.1))
    have hl : (((mateF 0 o).map fun e => (e.2, e.1)).filter (fun e => decide (i + 1 ≤ e.1))).length = left - 1 := by
      rw [List.filter_map, List.length_map]
      have := mate_drop o (i + 1)
      rw [show ((fun e : Nat × Nat => decide (i + 1 ≤ e.1)) ∘ fun e : Nat × Nat => (e.2, e.1)) = fun e => decide (i + 1 ≤ e.2) from rfl, this]
      omega
    have hmat : Mat F (fun x => i + 1 ≤ x) (fun h => B h ∧ h ≠ k) (((mateF 0 o).map fun e => (e.2, e.1)).filter (fun e => decide (i + 1 ≤ e.1))) := hM.mono fun d hd => by
      obtain ⟨hd1, hd2⟩ := List.mem_filter.1 hd
      obtain ⟨⟨x, y⟩, hb, rfl⟩ := List.mem_map.1 hd1
      have hy := (mem_mate.1 hb).2
      simp only [Nat.sub_zero] at hy
      have hge : i + 1 ≤ y := by simpa using hd2
      refine ⟨hge, ⟨(h.used x).2 ⟨(ho.fit y x hy).2, fun hm => ?_⟩, ?_⟩, (ho.fit y x hy).1⟩
      · rw [← e] at hm
        obtain ⟨j, hj⟩ := List.getElem?_of_mem hm
        rw [List.getElem?_take] at hj
        split at hj
        · have := ho.inj j y x hj hy; omega
        · cases hj
      · rintro (rfl : x = k)
        have := ho.inj y i x hy hk
        omega
    have hless := Mx.less (F := F) (A := fun x => i + 1 ≤ x) (B := fun h => B h ∧ h ≠ k) (A' := fun x => i ≤ x) (B' := B) (n := left - 1) (b := i) (k := k) (by rw [Nat.sub_add_cancel hpos]; exact h.mx h0) (fun x => by omega)
        (fun x => by
          constructor
          · intro hx
            by_cases e1 : x = k
            · exact .inr e1
            · exact .inl ⟨hx, e1⟩
          · rintro (h5 | h5)
            · exact h5.1
            · rw [h5]; exact hB) (by omega) (by simp) hF.1 hmat (by omega)
    exact ⟨hB, hF.1, hpos, hless.1⟩
  have tk : ∀ j, j < o.length → o.take (j + 1) = o.take j ++ [o.getD j 0] := fun j hj => by
    rw [List.take_succ_eq_append_getElem hj]
    congr 2
    rw [List.getD_eq_getElem?_getD, List.getElem?_eq_getElem hj]
    rfl
  have gt : ∀ j, j < o.length → o[j]? = some (o.getD j 0) := fun j hj => by
    rw [List.getD_eq_getElem?_getD, List.getElem?_eq_getElem hj]
    rfl
  induction h with
  | first => simp [lessL]
  | @hit i B B' left k to h hc hf hB ih =>
    have ih := ih (by omega)
    have hl := h.len
    rw [tk i (by omega), lessL_snoc _ _ _ _ (by rw [List.length_take]; omega)]
    split
    · rename_i e
      have g := gt i (by omega)
      have hlow := ho.low _ (List.mem_of_getElem? g)
      generalize o.getD i 0 = v at g hlow ⊢
      split
      · rfl
      · rename_i hne
        have h1 : ¬ (k : Int) = -1 := by omega
        simp only [h1, decide_false, Bool.false_or]
        by_cases hv : v = -1
        · simp [hv]
        · have hlt : ¬ v < (k : Int) := fun hlt => by
            obtain ⟨u, rfl⟩ : ∃ u : Nat, v = u := ⟨v.toNat, by omega⟩
            exact hf u (by omega) (key h e u g)
          simp [hlt]
    · exact ih
  | @miss i B left to h hf ih =>
    have ih := ih (by omega)
    have hl := h.len
    rw [tk i (by omega), lessL_snoc _ _ _ _ (by rw [List.length_take]; omega)]
    split
    · rename_i e
      have g := gt i (by omega)
      have hlow := ho.low _ (List.mem_of_getElem? g)
      generalize o.getD i 0 = v at g hlow ⊢
      split
      · rfl
      · rename_i hne
        obtain ⟨u, rfl⟩ : ∃ u : Nat, v = u := ⟨v.toNat, by omega⟩
        exact absurd (key h e u g) (hf u)
    · exact ih
/-- No pairing has more pairs. -/
theorem PairL.le {F : Nat → Nat → Prop} {m n : Nat} {o : List Int} (h : PairL F m o) (h0 : Mx F (fun _ => True) (· < m) n) : cnt o ≤ n := by
  have := h0.2 _ (h.mat (A := fun _ => True) (B := (· < m)) (fun j k hj => ⟨trivial, (h.fit j k hj).2⟩))
  rw [List.length_map, mate_len] at this
  exact this
end Go.Proofs.YtpklcjbdmikbdaaGreat
namespace Go.Proofs.YtpklcjbdmikbdaaGreat

/-- A part: its span, and whether it is taken off. -/
structure Prt where
  lo : Int
  hi : Int
  neg : Bool
def Prt.wd (p : Prt) : Nat := (p.hi - p.lo + 1).toNat
def Prt.off (p : Prt) (k : Nat) : Int := if p.neg then -(p.lo + k) else p.lo + k
def Prt.opts (p : Prt) : List Int := (List.range p.wd).map p.off
/-- The gaps with a part more. -/
def spread (S : List Int) (p : Prt) : List Int := S.flatMap fun g => p.opts.map fun x => g + x
def gapsL (ps : List Prt) : List Int := ps.foldl spread [0]
theorem gapsL_snoc (ps : List Prt) (p : Prt) : gapsL (ps ++ [p]) = spread (gapsL ps) p := by simp [gapsL]
theorem opts_len (p : Prt) : p.opts.length = p.wd := by simp [Prt.opts]
theorem sum_const {α : Type} (l : List α) (c : Nat) : (l.map fun _ => c).sum = l.length * c := by
  induction l with
  | nil => simp
  | cons a l ih => simp [ih, Nat.add_mul]; omega
theorem spread_len (S : List Int) (p : Prt) : (spread S p).length = S.length * p.wd := by
  unfold spread
  rw [List.length_flatMap]
  simp only [List.length_map, opts_len]
  exact sum_const S _
/-- Keys that each stand once and hold all: what is summed by keys is what is summed by elements. -/
theorem sum_pick {ks : List Int} (hn : ks.Nodup) (h : Int → Nat) (a : Int) : (ks.map fun g => (if a = g then 1 else 0) * h g).sum = if a ∈ ks then h a else 0 := by
  induction ks with
  | nil => simp
  | cons g ks ih =>
    rw [List.nodup_cons] at hn
    rw [List.map_cons, List.sum_cons, ih hn.2]
    by_cases e : a = g
    · subst e
      rw [if_pos rfl, if_neg hn.1, if_pos (by simp)]
      omega
    · rw [if_neg e]
      by_cases hm : a ∈ ks
      · rw [if_pos hm, if_pos (by simp [hm])]; omega
      · rw [if_neg hm, if_neg (by simp [hm, e])]; simp
theorem sum_add {α : Type} (l : List α) (f g : α → Nat) : (l.map fun a => f a + g a).sum = (l.map f).sum + (l.map g).sum := by
  induction l with
  | nil => simp
  | cons a l ih => simp [ih]; omega
theorem sum_keys {ks : List Int} (hn : ks.Nodup) (h : Int → Nat) (S : List Int) (hS : ∀ x ∈ S, x ∈ ks) : (ks.map fun g => S.count g * h g).sum = (S.map h).sum := by
  induction S with
  | nil => simp only [List.count_nil, Nat.zero_mul, List.map_nil, List.sum_nil]; rw [sum_const]; simp
  | cons a S ih =>
    have e : (ks.map fun g => (a :: S).count g * h g) = ks.map fun g => S.count g * h g + (if a = g then 1 else 0) * h g := by
      refine List.map_congr_left fun g _ => ?_
      rw [List.count_cons, Nat.add_mul]
      simp
    rw [e, sum_add, ih fun x hx => hS x (by simp [hx]), sum_pick hn, if_pos (hS a (by simp)), List.map_cons, List.sum_cons]
    omega
/-- What has been filled in: all options of the keys of a list. -/
def filled2 (S : List Int) (p : Prt) (ks : List Int) : List Int := ks.flatMap fun g => p.opts.flatMap fun x => List.replicate (S.count g) (g + x)
/-- The first k options of one key. -/
def fill1 (S : List Int) (p : Prt) (g : Int) (k : Nat) : List Int := ((List.range k).map p.off).flatMap fun x => List.replicate (S.count g) (g + x)
theorem fill1_zero (S : List Int) (p : Prt) (g : Int) : fill1 S p g 0 = [] := rfl
theorem fill1_succ (S : List Int) (p : Prt) (g : Int) (k : Nat) : fill1 S p g (k + 1) = fill1 S p g k ++ List.replicate (S.count g) (g + p.off k) := by
  unfold fill1
  rw [List.range_succ, List.map_append, List.flatMap_append]
  simp
theorem filled2_step (S : List Int) (p : Prt) (ks : List Int) (g : Int) : filled2 S p (ks ++ [g]) = filled2 S p ks ++ fill1 S p g p.wd := by
  unfold filled2 fill1 Prt.opts
  rw [List.flatMap_append]
  simp
theorem filled2_count {S : List Int} {p : Prt} {ks : List Int} (hn : ks.Nodup) (hS : ∀ x ∈ S, x ∈ ks) (t : Int) : (filled2 S p ks).count t = (spread S p).count t := by
  unfold filled2 spread
  rw [List.count_flatMap, List.count_flatMap]
  have e : (ks.map (List.count t ∘ fun g => p.opts.flatMap fun x => List.replicate (S.count g) (g + x))) = ks.map fun g => S.count g * (p.opts.map fun x => g + x).count t := by
    refine List.map_congr_left fun g _ => ?_
    show List.count t (p.opts.flatMap fun x => List.replicate (S.count g) (g + x)) = _
    rw [List.count_flatMap]
    generalize p.opts = l
    induction l with
    | nil => simp
    | cons x l ih =>
      rw [List.map_cons, List.sum_cons, ih, List.map_cons, List.count_cons, Nat.mul_add]
      show List.count t (List.replicate (S.count g) (g + x)) + _ = _
      rw [List.count_replicate]
      by_cases e : (g + x == t) = true
      · rw [if_pos e, if_pos e]; omega
      · rw [if_neg e, if_neg e]; omega
  rw [e, sum_keys hn (fun g => (p.opts.map fun x => g + x).count t) S hS]
  rfl
/-- Bounds of the gaps. -/
def Within (S : List Int) (a b : Int) : Prop := ∀ x ∈ S, a ≤ x ∧ x ≤ b
theorem mem_opts {p : Prt} {x : Int} (h : x ∈ p.opts) : (p.neg = false ∧ p.lo ≤ x ∧ x ≤ p.hi) ∨ (p.neg = true ∧ -p.hi ≤ x ∧ x ≤ -p.lo) := by
  obtain ⟨k, hk, rfl⟩ := List.mem_map.1 h
  have hk := List.mem_range.1 hk
  unfold Prt.wd at hk
  unfold Prt.off
  cases p.neg
  · left; simp; omega
  · right; simp; omega
def Prt.low (p : Prt) : Int := if p.neg then -p.hi else p.lo
def Prt.high (p : Prt) : Int := if p.neg then -p.lo else p.hi
theorem spread_within {S : List Int} {a b : Int} (h : Within S a b) (p : Prt) : Within (spread S p) (a + p.low) (b + p.high) := by
  intro x hx
  obtain ⟨g, hg, hx⟩ := List.mem_flatMap.1 hx
  obtain ⟨y, hy, rfl⟩ := List.mem_map.1 hx
  have h1 := h g hg
  unfold Prt.low Prt.high
  rcases mem_opts hy with ⟨e, h2, h3⟩ | ⟨e, h2, h3⟩ <;> rw [e] <;> simp <;> omega
/-- Each number once, within bounds: not more than the bounds have room for. -/
theorem nodup_within {l : List Int} (hn : l.Nodup) {a b : Int} (h : Within l a b) (hab : a ≤ b + 1) : (l.length : Int) ≤ b - a + 1 := by
  have h1 : (l.map fun x => (x - a).toNat).Nodup := by
    induction l with
    | nil => simp
    | cons x l ih =>
      rw [List.nodup_cons] at hn
      rw [List.map_cons, List.nodup_cons]
      refine ⟨fun hm => ?_, ih hn.2 fun y hy => h y (by simp [hy])⟩
      obtain ⟨y, hy, e⟩ := List.mem_map.1 hm
      have a1 := h x (by simp)
      have a2 := h y (by simp [hy])
      exact hn.1 ((show y = x by omega) ▸ hy)
  have h2 : ∀ (n : Nat) (l : List Nat), l.Nodup → (∀ x ∈ l, x < n) → l.length ≤ n := by
    intro n
    induction n with
    | zero =>
      intro l _ hl
      cases l with
      | nil => simp
      | cons x l => exact absurd (hl x (by simp)) (by omega)
    | succ n ih =>
      intro l hl hb
      have h3 := ih (l.erase n) (hl.sublist List.erase_sublist) fun x hx => by
        have := hb x (List.mem_of_mem_erase hx)
        have hne : x ≠ n := fun e => by
          rw [e] at hx
          exact (List.Nodup.not_mem_erase hl) hx
        omega
      rw [List.length_erase] at h3
      split at h3 <;> omega
  have h3 := h2 (b - a + 1).toNat _ h1 fun x hx => by
    obtain ⟨y, hy, rfl⟩ := List.mem_map.1 hx
    have := h y hy
    omega
  rw [List.length_map] at h3
  omega
end Go.Proofs.YtpklcjbdmikbdaaGreat
namespace Go.Proofs.YtpklcjbdmikbdaaGreat

/-- A valid part. -/
def okP (p : Prt) : Prop := -1000000 ≤ p.lo ∧ p.lo ≤ p.hi ∧ p.hi ≤ 1000000 ∧ p.hi - p.lo ≤ 100
def okPs (ps : List Prt) : Prop := ∀ p ∈ ps, okP p
theorem okP_wd {p : Prt} (h : okP p) : 0 < p.wd ∧ p.wd ≤ 101 := by unfold okP at h; unfold Prt.wd; omega
def lowL (ps : List Prt) : Int := (ps.map Prt.low).sum
def highL (ps : List Prt) : Int := (ps.map Prt.high).sum
theorem lowL_snoc (ps : List Prt) (p : Prt) : lowL (ps ++ [p]) = lowL ps + p.low := by simp [lowL]
theorem highL_snoc (ps : List Prt) (p : Prt) : highL (ps ++ [p]) = highL ps + p.high := by simp [highL]
theorem okP_ends {p : Prt} (h : okP p) : -1000000 ≤ p.low ∧ p.low ≤ p.high ∧ p.high ≤ 1000000 ∧ p.high - p.low ≤ 100 := by
  unfold okP at h; unfold Prt.low Prt.high
  cases p.neg <;> simp <;> omega
theorem snoc_induct {α : Type} {P : List α → Prop} (h0 : P []) (h1 : ∀ l a, P l → P (l ++ [a])) (l : List α) : P l := by
  have : ∀ (n : Nat) (l : List α), l.length = n → P l := by
    intro n
    induction n with
    | zero => intro l hl; rw [List.eq_nil_of_length_eq_zero hl]; exact h0
    | succ n ih =>
      intro l hl
      have hne : l ≠ [] := by intro e; rw [e] at hl; simp at hl
      rw [← List.dropLast_concat_getLast hne]
      exact h1 _ _ (ih _ (by simp [hl]))
  exact this _ l rfl
theorem gapsL_facts : ∀ ps : List Prt, okPs ps → Within (gapsL ps) (lowL ps) (highL ps) ∧ -(1000000 * ps.length : Int) ≤ lowL ps ∧ lowL ps ≤ highL ps ∧ highL ps ≤ 1000000 * ps.length ∧ highL ps - lowL ps ≤ 100 * ps.length ∧ (gapsL ps).length ≤ 101 ^ ps.length ∧ 0 < (gapsL ps).length := by
  refine snoc_induct ?_ ?_
  · intro _
    refine ⟨?_, by simp [lowL], by simp [lowL, highL], by simp [highL], by simp [lowL, highL], by simp [gapsL], by simp [gapsL]⟩
    intro x hx
    simp [gapsL] at hx
    subst hx
    simp [lowL, highL]
  · intro ps p ih h
    obtain ⟨a1, a2, a3, a4, a5, a6, a7⟩ := ih fun q hq => h q (by simp [hq])
    have hp := h p (by simp)
    obtain ⟨b1, b2, b3, b4⟩ := okP_ends hp
    obtain ⟨c1, c2⟩ := okP_wd hp
    rw [gapsL_snoc, lowL_snoc, highL_snoc, spread_len, List.length_append]
    refine ⟨spread_within a1 p, ?_, by omega, ?_, ?_, ?_, Nat.mul_pos a7 c1⟩
    · simp; omega
    · simp; omega
    · simp; omega
    · rw [List.length_singleton, Nat.pow_succ]
      exact Nat.mul_le_mul a6 c2
theorem choices_bound {ps : List Prt} (h : okPs ps) (hl : ps.length ≤ 8) : (gapsL ps).length ≤ 10828567056280801 := by
  have h1 := (gapsL_facts ps h).2.2.2.2.2.1
  have h2 : 101 ^ ps.length ≤ 101 ^ 8 := Nat.pow_le_pow_right (by omega) hl
  have h3 : 101 ^ 8 = 10828567056280801 := by decide
  omega
theorem okPs_take {ps : List Prt} (h : okPs ps) (k : Nat) : okPs (ps.take k) := fun p hp => h p (List.mem_of_mem_take hp)
/-- What has been filled in so far is not more than what is filled in at the end. -/
theorem fill_le {S : List Int} {p : Prt} {ks : List Int} {j x : Nat} {g : Int} (hg : ks[j]? = some g) (hx : x ≤ p.wd) (t : Int) : (filled2 S p (ks.take j) ++ fill1 S p g x).count t ≤ (filled2 S p ks).count t := by
  obtain ⟨h1, h2⟩ := List.getElem?_eq_some_iff.1 hg
  have e : ks = (ks.take j ++ [g]) ++ ks.drop (j + 1) := by
    rw [List.append_assoc, List.singleton_append, ← h2, ← List.drop_eq_getElem_cons h1, List.take_append_drop]
  have e2 : filled2 S p ks = filled2 S p (ks.take j ++ [g]) ++ filled2 S p (ks.drop (j + 1)) := by
    have : filled2 S p ((ks.take j ++ [g]) ++ ks.drop (j + 1)) = filled2 S p (ks.take j ++ [g]) ++ filled2 S p (ks.drop (j + 1)) := by
      unfold filled2; rw [List.flatMap_append]
    rw [← e] at this
    exact this
  have e3 : ∀ y, x + y = p.wd → (fill1 S p g x).count t ≤ (fill1 S p g p.wd).count t := by
    intro y
    induction y generalizing x with
    | zero => intro h; rw [show x = p.wd by omega]; exact Nat.le_refl _
    | succ y ih =>
      intro h
      refine Nat.le_trans ?_ (ih (by omega) (by omega : (x + 1) + y = p.wd))
      rw [fill1_succ, List.count_append]
      omega
  rw [e2, filled2_step, List.count_append, List.count_append, List.count_append]
  have := e3 (p.wd - x) (by omega)
  omega
end Go.Proofs.YtpklcjbdmikbdaaGreat
namespace Go.Proofs.YtpklcjbdmikbdaaGreat

/-- The value of some limbs. -/
def val : List Nat → Nat
  | [] => 0
  | a :: l => a + 4294967296 * val l
/-- The limbs of a number. -/
def limbs (k : Nat) : List Nat := if k = 0 then [] else k % 4294967296 :: limbs (k / 4294967296)
termination_by k
decreasing_by exact Nat.div_lt_self (by omega) (by omega)
theorem limbs_zero : limbs 0 = [] := by rw [limbs]; rfl
theorem limbs_pos {k : Nat} (h : 0 < k) : limbs k = k % 4294967296 :: limbs (k / 4294967296) := by rw [limbs, if_neg (by omega)]
theorem val_limbs (k : Nat) : val (limbs k) = k := by
  induction k using Nat.strongRecOn with
  | ind k ih =>
    rcases Nat.eq_zero_or_pos k with rfl | h
    · rw [limbs_zero]; rfl
    · rw [limbs_pos h, val, ih _ (Nat.div_lt_self h (by omega))]
      omega
theorem limbs_lt {k a : Nat} : a ∈ limbs k → a < 4294967296 := by
  induction k using Nat.strongRecOn with
  | ind k ih =>
    rcases Nat.eq_zero_or_pos k with rfl | h
    · rw [limbs_zero]; simp
    · rw [limbs_pos h, List.mem_cons]
      rintro (rfl | h1)
      · omega
      · exact ih _ (Nat.div_lt_self h (by omega)) h1
/-- All are limbs. -/
def Limb (l : List Nat) : Prop := ∀ a ∈ l, a < 4294967296
theorem val_zero_of {l : List Nat} (h : val l = 0) : ∀ a ∈ l, a = 0 := by
  induction l with
  | nil => simp
  | cons a l ih =>
    rw [val] at h
    intro x hx
    rcases List.mem_cons.1 hx with rfl | hx
    · omega
    · exact ih (by omega) x hx
theorem limbs_val : ∀ {l : List Nat}, Limb l → (∀ a, l.getLast? = some a → a ≠ 0) → limbs (val l) = l
  | [], _, _ => limbs_zero
  | a :: l, hl, h => by
    have ha := hl a (by simp)
    have hl' : Limb l := fun x hx => hl x (by simp [hx])
    cases l with
    | nil =>
      have := h a rfl
      rw [limbs_pos (by rw [val]; omega)]
      have e : val [a] = a := rfl
      rw [e, Nat.mod_eq_of_lt ha, Nat.div_eq_of_lt ha, limbs_zero]
    | cons b l =>
      have ih := limbs_val hl' (fun x hx => h x (by rw [List.getLast?_cons_cons]; exact hx))
      have hpos : 0 < val (b :: l) := by
        rcases Nat.eq_zero_or_pos (val (b :: l)) with h0 | h0
        · exfalso
          have hz := val_zero_of h0
          have hne : (b :: l) ≠ [] := by simp
          have hg := List.getLast?_eq_some_getLast hne
          exact h ((b :: l).getLast hne) (by rw [List.getLast?_cons_cons]; exact hg) (hz _ (List.getLast_mem hne))
        · exact h0
      rw [limbs_pos (by rw [val]; omega)]
      have e1 : val (a :: b :: l) % 4294967296 = a := by rw [val]; omega
      have e2 : val (a :: b :: l) / 4294967296 = val (b :: l) := by rw [val]; omega
      rw [e1, e2, ih]
theorem val_append (l r : List Nat) : val (l ++ r) = val l + 4294967296 ^ l.length * val r := by
  induction l with
  | nil => simp [val]
  | cons a l ih =>
    rw [List.cons_append, val, val, ih, List.length_cons, Nat.pow_succ, Nat.mul_add]
    have : 4294967296 * (4294967296 ^ l.length * val r) = 4294967296 ^ l.length * 4294967296 * val r := by
      rw [← Nat.mul_assoc, Nat.mul_comm 4294967296]
    omega
theorem limbs_len {k : Nat} (h : k < 18446744073709551616) : (limbs k).length ≤ 2 := by
  rcases Nat.eq_zero_or_pos k with rfl | h0
  · rw [limbs_zero]; simp
  · rw [limbs_pos h0]
    rcases Nat.eq_zero_or_pos (k / 4294967296) with h1 | h1
    · rw [h1, limbs_zero]; simp
    · rw [limbs_pos h1, show k / 4294967296 / 4294967296 = 0 by omega, limbs_zero]; simp
theorem limbs_nil {k : Nat} : (limbs k).length = 0 ↔ k = 0 := by
  constructor
  · intro h
    have := val_limbs k
    rw [List.eq_nil_of_length_eq_zero h] at this
    exact this.symm
  · rintro rfl; rw [limbs_zero]; rfl
/-- Stripping one zero. -/
theorem val_strip {l : List Nat} {m : Nat} (hm : m < l.length) (h0 : l.getD m 1 = 0) : val (l.take (m + 1)) = val (l.take m) := by
  rw [List.take_succ_eq_append_getElem hm, val_append]
  have : l[m] = 0 := by rw [List.getD_eq_getElem?_getD, List.getElem?_eq_getElem hm] at h0; exact h0
  rw [this]
  simp [val]
theorem limbs_take {l : List Nat} {m : Nat} (hl : Limb l) (hm : m ≤ l.length) (h : m = 0 ∨ l.getD (m - 1) 1 ≠ 0) : limbs (val (l.take m)) = l.take m := by
  refine limbs_val (fun a ha => hl a (List.mem_of_mem_take ha)) fun a ha => ?_
  rcases Nat.eq_zero_or_pos m with rfl | hp
  · simp at ha
  · have h2 := h.resolve_left (by omega)
    rw [List.getLast?_eq_getElem?, List.length_take, Nat.min_eq_left hm, List.getElem?_take, if_pos (by omega)] at ha
    rw [List.getD_eq_getElem?_getD, ha] at h2
    exact h2
end Go.Proofs.YtpklcjbdmikbdaaGreat
namespace Go.Proofs.YtpklcjbdmikbdaaGreat
set_option maxRecDepth 100000

/-- A numerator in lowest terms. -/
def lowN (n d : Nat) : Nat := n / n.gcd d
/-- A denominator in lowest terms. -/
def lowD (n d : Nat) : Nat := d / n.gcd d
theorem lowN_mul (n d k : Nat) (hk : 0 < k) : lowN (n * k) (d * k) = lowN n d := by
  unfold lowN
  rw [Nat.gcd_mul_right, Nat.mul_div_mul_right _ _ hk]
theorem lowD_mul (n d k : Nat) (hk : 0 < k) : lowD (n * k) (d * k) = lowD n d := by
  unfold lowD
  rw [Nat.gcd_mul_right, Nat.mul_div_mul_right _ _ hk]
theorem lowN_back (n d : Nat) : lowN n d * n.gcd d = n := Nat.div_mul_cancel (Nat.gcd_dvd_left _ _)
theorem lowD_back (n d : Nat) : lowD n d * n.gcd d = d := Nat.div_mul_cancel (Nat.gcd_dvd_right _ _)
theorem lowN_le (n d : Nat) : lowN n d ≤ n := Nat.div_le_self _ _
theorem lowD_le (n d : Nat) : lowD n d ≤ d := Nat.div_le_self _ _
theorem low_pos {n d : Nat} (hd : 0 < d) : 0 < n.gcd d := Nat.gcd_pos_of_pos_right _ hd
theorem lowD_pos {n d : Nat} (hd : 0 < d) : 0 < lowD n d := by
  have := lowD_back n d
  rcases Nat.eq_zero_or_pos (lowD n d) with h | h
  · rw [h] at this; omega
  · exact h
theorem low_gcd {n d : Nat} (hd : 0 < d) : (lowN n d).gcd (lowD n d) = 1 := by
  unfold lowN lowD
  rw [Nat.gcd_div (Nat.gcd_dvd_left _ _) (Nat.gcd_dvd_right _ _), Nat.div_self (low_pos hd)]
/-- The sum of two fractions with one denominator. -/
theorem low_add {a b d : Nat} (hd : 0 < d) : lowN (lowN a d * lowD b d + lowN b d * lowD a d) (lowD a d * lowD b d) = lowN (a + b) d ∧ lowD (lowN a d * lowD b d + lowN b d * lowD a d) (lowD a d * lowD b d) = lowD (a + b) d := by
  have g1 := low_pos (n := a) hd
  have g2 := low_pos (n := b) hd
  have hk : 0 < a.gcd d * b.gcd d := Nat.mul_pos g1 g2
  have e1 : (lowN a d * lowD b d + lowN b d * lowD a d) * (a.gcd d * b.gcd d) = (a + b) * d := by
    have h1 : lowN a d * lowD b d * (a.gcd d * b.gcd d) = a * d := by
      rw [show lowN a d * lowD b d * (a.gcd d * b.gcd d) = (lowN a d * a.gcd d) * (lowD b d * b.gcd d) by simp only [Nat.mul_comm, Nat.mul_left_comm, Nat.mul_assoc], lowN_back, lowD_back]
    have h2 : lowN b d * lowD a d * (a.gcd d * b.gcd d) = b * d := by
      rw [show lowN b d * lowD a d * (a.gcd d * b.gcd d) = (lowN b d * b.gcd d) * (lowD a d * a.gcd d) by simp only [Nat.mul_comm, Nat.mul_left_comm, Nat.mul_assoc], lowN_back, lowD_back]
    rw [Nat.add_mul, h1, h2, Nat.add_mul]
  have e2 : lowD a d * lowD b d * (a.gcd d * b.gcd d) = d * d := by
    rw [show lowD a d * lowD b d * (a.gcd d * b.gcd d) = (lowD a d * a.gcd d) * (lowD b d * b.gcd d) by simp only [Nat.mul_comm, Nat.mul_left_comm, Nat.mul_assoc], lowD_back, lowD_back]
  constructor
  · rw [← lowN_mul _ _ _ hk, e1, e2, lowN_mul _ _ _ hd]
  · rw [← lowD_mul _ _ _ hk, e1, e2, lowD_mul _ _ _ hd]
theorem low_zero {d : Nat} (hd : 0 < d) : lowN 0 d = 0 ∧ lowD 0 d = 1 := by
  unfold lowN lowD
  rw [Nat.gcd_zero_left, Nat.zero_div, Nat.div_self hd]
  exact ⟨rfl, rfl⟩
theorem low_all {d : Nat} (hd : 0 < d) : lowN d d = 1 ∧ lowD d d = 1 := by
  unfold lowN lowD
  rw [Nat.gcd_self, Nat.div_self hd]
  exact ⟨rfl, rfl⟩
/-- Comparing in lowest terms is comparing. -/
theorem low_cmp {a b c d : Nat} (hb : 0 < b) (hd : 0 < d) : (lowN a b * lowD c d ≤ lowN c d * lowD a b ↔ a * d ≤ c * b) := by
  have hk : 0 < a.gcd b * c.gcd d := Nat.mul_pos (low_pos hb) (low_pos hd)
  have h1 : lowN a b * lowD c d * (a.gcd b * c.gcd d) = a * d := by
    rw [show lowN a b * lowD c d * (a.gcd b * c.gcd d) = (lowN a b * a.gcd b) * (lowD c d * c.gcd d) by simp only [Nat.mul_comm, Nat.mul_left_comm, Nat.mul_assoc], lowN_back, lowD_back]
  have h2 : lowN c d * lowD a b * (a.gcd b * c.gcd d) = c * b := by
    rw [show lowN c d * lowD a b * (a.gcd b * c.gcd d) = (lowN c d * c.gcd d) * (lowD a b * a.gcd b) by simp only [Nat.mul_comm, Nat.mul_left_comm, Nat.mul_assoc], lowN_back, lowD_back]
  rw [← h1, ← h2]
  exact ⟨fun h => Nat.mul_le_mul_right _ h, fun h => Nat.le_of_mul_le_mul_right h hk⟩
end Go.Proofs.YtpklcjbdmikbdaaGreat
namespace Go.Proofs.YtpklcjbdmikbdaaGreat
set_option maxRecDepth 100000

/-- The value of some digits. -/
def vad : List Nat → Nat
  | [] => 0
  | a :: l => a + 10000 * vad l
/-- The digits of a number. -/
def digs (k : Nat) : List Nat := if k = 0 then [] else k % 10000 :: digs (k / 10000)
termination_by k
decreasing_by exact Nat.div_lt_self (by omega) (by omega)
theorem digs_zero : digs 0 = [] := by rw [digs]; rfl
theorem digs_pos {k : Nat} (h : 0 < k) : digs k = k % 10000 :: digs (k / 10000) := by rw [digs, if_neg (by omega)]
theorem vad_digs (k : Nat) : vad (digs k) = k := by
  induction k using Nat.strongRecOn with
  | ind k ih =>
    rcases Nat.eq_zero_or_pos k with rfl | h
    · rw [digs_zero]; rfl
    · rw [digs_pos h, vad, ih _ (Nat.div_lt_self h (by omega))]
      omega
/-- All are digits. -/
def Digit (l : List Nat) : Prop := ∀ a ∈ l, a < 10000
theorem digs_lt {k a : Nat} : a ∈ digs k → a < 10000 := by
  induction k using Nat.strongRecOn with
  | ind k ih =>
    rcases Nat.eq_zero_or_pos k with rfl | h
    · rw [digs_zero]; simp
    · rw [digs_pos h, List.mem_cons]
      rintro (rfl | h1)
      · omega
      · exact ih _ (Nat.div_lt_self h (by omega)) h1
theorem digs_digit (k : Nat) : Digit (digs k) := fun _ => digs_lt
theorem vad_zero_of {l : List Nat} (h : vad l = 0) : ∀ a ∈ l, a = 0 := by
  induction l with
  | nil => simp
  | cons a l ih =>
    rw [vad] at h
    intro x hx
    rcases List.mem_cons.1 hx with rfl | hx
    · omega
    · exact ih (by omega) x hx
theorem digs_vad : ∀ {l : List Nat}, Digit l → (∀ a, l.getLast? = some a → a ≠ 0) → digs (vad l) = l
  | [], _, _ => digs_zero
  | a :: l, hl, h => by
    have ha := hl a (by simp)
    have hl' : Digit l := fun x hx => hl x (by simp [hx])
    cases l with
    | nil =>
      have := h a rfl
      rw [digs_pos (by rw [vad]; omega)]
      have e : vad [a] = a := rfl
      rw [e, Nat.mod_eq_of_lt ha, Nat.div_eq_of_lt ha, digs_zero]
    | cons b l =>
      have ih := digs_vad hl' (fun x hx => h x (by rw [List.getLast?_cons_cons]; exact hx))
      have hpos : 0 < vad (b :: l) := by
        rcases Nat.eq_zero_or_pos (vad (b :: l)) with h0 | h0
        · exfalso
          have hz := vad_zero_of h0
          have hne : (b :: l) ≠ [] := by simp
          have hg := List.getLast?_eq_some_getLast hne
          exact h ((b :: l).getLast hne) (by rw [List.getLast?_cons_cons]; exact hg) (hz _ (List.getLast_mem hne))
        · exact h0
      rw [digs_pos (by rw [vad]; omega)]
      have e1 : vad (a :: b :: l) % 10000 = a := by rw [vad]; omega
      have e2 : vad (a :: b :: l) / 10000 = vad (b :: l) := by rw [vad]; omega
      rw [e1, e2, ih]
theorem vad_append (l r : List Nat) : vad (l ++ r) = vad l + 10000 ^ l.length * vad r := by
  induction l with
  | nil => simp [vad]
  | cons a l ih =>
    rw [List.cons_append, vad, vad, ih, List.length_cons, Nat.pow_succ, Nat.mul_add]
    have : 10000 * (10000 ^ l.length * vad r) = 10000 ^ l.length * 10000 * vad r := by
      rw [← Nat.mul_assoc, Nat.mul_comm 10000]
    omega
theorem vad_lt : ∀ {l : List Nat}, Digit l → vad l < 10000 ^ l.length
  | [], _ => by simp [vad]
  | a :: l, h => by
    have ha := h a (by simp)
    have := vad_lt (l := l) fun x hx => h x (by simp [hx])
    rw [vad, List.length_cons, Nat.pow_succ]
    omega
theorem digs_nil {k : Nat} : (digs k).length = 0 ↔ k = 0 := by
  constructor
  · intro h
    have := vad_digs k
    rw [List.eq_nil_of_length_eq_zero h] at this
    exact this.symm
  · rintro rfl; rw [digs_zero]; rfl
theorem digs_one {k : Nat} (h0 : 0 < k) (h : k < 10000) : digs k = [k] := by
  rw [digs_pos h0, Nat.mod_eq_of_lt h, Nat.div_eq_of_lt h, digs_zero]
theorem digs_two {k : Nat} (h0 : 10000 ≤ k) (h : k < 100000000) : digs k = [k % 10000, k / 10000] := by
  rw [digs_pos (by omega), digs_one (by omega) (by omega)]
theorem digs_short {k : Nat} (h : k < 100000000) : (digs k).length ≤ 2 := by
  rcases Nat.eq_zero_or_pos k with rfl | h0
  · rw [digs_zero]; simp
  · rw [digs_pos h0]
    rcases Nat.eq_zero_or_pos (k / 10000) with h1 | h1
    · rw [h1, digs_zero]; simp
    · rw [digs_one h1 (by omega)]; simp
theorem digs_last {k a : Nat} (h : (digs k).getLast? = some a) : a ≠ 0 := by
  induction k using Nat.strongRecOn with
  | ind k ih =>
    rcases Nat.eq_zero_or_pos k with rfl | h0
    · rw [digs_zero] at h; simp at h
    · rw [digs_pos h0] at h
      rcases Nat.eq_zero_or_pos (k / 10000) with h1 | h1
      · rw [h1, digs_zero] at h
        simp at h
        omega
      · rw [digs_pos h1, List.getLast?_cons_cons, ← digs_pos h1] at h
        exact ih _ (Nat.div_lt_self h0 (by omega)) h
/-- Stripping one zero. -/
theorem vad_strip {l : List Nat} {m : Nat} (hm : m < l.length) (h0 : l.getD m 1 = 0) : vad (l.take (m + 1)) = vad (l.take m) := by
  rw [List.take_succ_eq_append_getElem hm, vad_append]
  have : l[m] = 0 := by rw [List.getD_eq_getElem?_getD, List.getElem?_eq_getElem hm] at h0; exact h0
  rw [this]
  simp [vad]
theorem digs_take {l : List Nat} {m : Nat} (hl : Digit l) (hm : m ≤ l.length) (h : m = 0 ∨ l.getD (m - 1) 1 ≠ 0) : digs (vad (l.take m)) = l.take m := by
  refine digs_vad (fun a ha => hl a (List.mem_of_mem_take ha)) fun a ha => ?_
  rcases Nat.eq_zero_or_pos m with rfl | hp
  · simp at ha
  · have h2 := h.resolve_left (by omega)
    rw [List.getLast?_eq_getElem?, List.length_take, Nat.min_eq_left hm, List.getElem?_take, if_pos (by omega)] at ha
    rw [List.getD_eq_getElem?_getD, ha] at h2
    exact h2
theorem vad_take_succ {l : List Nat} {m x : Nat} (h : l[m]? = some x) : vad (l.take (m + 1)) = vad (l.take m) + 10000 ^ m * x := by
  have hm := (List.getElem?_eq_some_iff.1 h).1
  rw [List.take_add_one, h, Option.toList_some, vad_append, List.length_take, Nat.min_eq_left (by omega)]
  simp [vad]
/-- A number from one digit on. -/
theorem vad_drop {l : List Nat} {m x : Nat} (h : l[m]? = some x) : vad (l.drop m) = x + 10000 * vad (l.drop (m + 1)) := by
  have hm := (List.getElem?_eq_some_iff.1 h).1
  have hx := (List.getElem?_eq_some_iff.1 h).2
  rw [List.drop_eq_getElem_cons hm, vad, hx]
theorem vad_split (l : List Nat) (m : Nat) (hm : m ≤ l.length) : vad l = vad (l.take m) + 10000 ^ m * vad (l.drop m) := by
  conv => lhs; rw [← List.take_append_drop m l]
  rw [vad_append, List.length_take, Nat.min_eq_left hm]
/-- Fewer digits, a lesser number. -/
theorem digs_len_lt {a b : Nat} (h : (digs a).length < (digs b).length) : a < b := by
  have h1 := vad_lt (digs_digit a)
  rw [vad_digs] at h1
  have hne : digs b ≠ [] := fun e => by rw [e] at h; simp at h
  have h2 := List.getLast?_eq_some_getLast hne
  have h3 := digs_last h2
  have h4 : (digs b)[(digs b).length - 1]? = some ((digs b).getLast hne) := by rw [← List.getLast?_eq_getElem?]; exact h2
  have h5 := vad_split (digs b) ((digs b).length - 1) (by omega)
  rw [vad_digs, vad_drop h4] at h5
  have h6 : 10000 ^ (digs a).length ≤ 10000 ^ ((digs b).length - 1) := Nat.pow_le_pow_right (by omega) (by omega)
  have h7 : 10000 ^ ((digs b).length - 1) * 1 ≤ 10000 ^ ((digs b).length - 1) * ((digs b).getLast hne + 10000 * vad ((digs b).drop ((digs b).length - 1 + 1))) := Nat.mul_le_mul_left _ (by omega)
  omega
/-- The highest digit that differs says which number is less. -/
theorem vad_less {a b : List Nat} {m x y : Nat} (ha : Digit a) (hm : a.length = b.length) (hx : a[m]? = some x) (hy : b[m]? = some y) (hd : a.drop (m + 1) = b.drop (m + 1)) (hlt : x < y) : vad a < vad b := by
  have h1 := (List.getElem?_eq_some_iff.1 hx).1
  rw [vad_split a m (by omega), vad_split b m (by omega), vad_drop hx, vad_drop hy, hd]
  have h2 : vad (a.take m) < 10000 ^ m := by
    have := vad_lt (l := a.take m) fun z hz => ha z (List.mem_of_mem_take hz)
    rwa [List.length_take, Nat.min_eq_left (by omega)] at this
  generalize vad (b.drop (m + 1)) = r
  have h3 : 10000 ^ m * (x + 10000 * r) + 10000 ^ m * 1 ≤ 10000 ^ m * (y + 10000 * r) := by
    rw [← Nat.mul_add]
    exact Nat.mul_le_mul_left _ (by omega)
  omega
end Go.Proofs.YtpklcjbdmikbdaaGreat
