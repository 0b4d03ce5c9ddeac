/-
  The plain mathematics of the sweep: jobs done as they come, the most urgent one first. No program in sight.
  No conditions.
-/
import Derived.Test.YtnfcigbiebbjdaaMoore
namespace Go.Proofs.Ytnfcigbiebbjdaa

/-- A slice: a job, from when, till when. -/
structure Sl where
  job : Int
  fr : Int
  till : Int
/-- How far the sweep has come: the time; what is left of each job; when it was last worked at; the slices, the last one first. -/
structure St where
  now : Int
  left : Int → Int
  fin : Int → Int
  out : List Sl
def upd (f : Int → Int) (i x : Int) : Int → Int := fun z => if z = i then x else f z
/-- A slice more: where it goes on with the last one it is joined to it. -/
def addSl (out : List Sl) (i a b : Int) : List Sl :=
  match out with
  | [] => [⟨i, a, b⟩]
  | s :: r => if s.job = i ∧ s.till = a then ⟨s.job, s.fr, b⟩ :: r else ⟨i, a, b⟩ :: s :: r
section
variable (l : List Jb) (n : Nat)
def Ready (s : St) (i : Int) : Prop := 0 ≤ i ∧ i < n ∧ s.left i ≠ 0 ∧ (jat l i).rel ≤ s.now
def Waits (s : St) (i : Int) : Prop := 0 ≤ i ∧ i < n ∧ s.left i ≠ 0 ∧ s.now < (jat l i).rel
def IsOn (s : St) (i : Int) : Prop := Ready l n s i ∧ ∀ j, Ready l n s j → (jat l i).due < (jat l j).due ∨ (jat l i).due = (jat l j).due ∧ i ≤ j
def IsNext (s : St) (t : Int) : Prop := (∃ i, Waits l n s i ∧ (jat l i).rel = t) ∧ ∀ j, Waits l n s j → t ≤ (jat l j).rel
def NoOn (s : St) : Prop := ∀ i, ¬ Ready l n s i
def NoNext (s : St) : Prop := ∀ i, ¬ Waits l n s i
/-- Till when the job on top is worked at. -/
def Till (s : St) (i till : Int) : Prop := (NoNext l n s ∧ till = s.now + s.left i) ∨ ∃ t, IsNext l n s t ∧ till = min (s.now + s.left i) t
def run (s : St) (i till : Int) : St := ⟨till, upd s.left i (s.left i - (till - s.now)), upd s.fin i till, addSl s.out i s.now till⟩
inductive Step : St → St → Prop
  | idle {s t} : NoOn l n s → IsNext l n s t → Step s { s with now := t }
  | run {s i till} : IsOn l n s i → Till l n s i till → Step s (run s i till)
def Done (s : St) : Prop := NoOn l n s ∧ NoNext l n s
inductive Reach (s0 : St) : St → Prop
  | refl : Reach s0 s0
  | next {s s'} : Reach s0 s → Step l n s s' → Reach s0 s'
def start : St := ⟨0, fun i => (jat l i).work, fun _ => 0, []⟩
end
section
variable {l : List Jb} {n : Nat}
theorem IsOn.uniq {s : St} {i j : Int} (h1 : IsOn l n s i) (h2 : IsOn l n s j) : i = j := by
  have a := h1.2 j h2.1
  have b := h2.2 i h1.1
  omega
theorem IsNext.uniq {s : St} {t u : Int} (h1 : IsNext l n s t) (h2 : IsNext l n s u) : t = u := by
  obtain ⟨i, a, b⟩ := h1.1
  obtain ⟨j, c, d⟩ := h2.1
  have e := h1.2 j c
  have f := h2.2 i a
  omega
theorem Till.uniq {s : St} {i t u : Int} (h1 : Till l n s i t) (h2 : Till l n s i u) : t = u := by
  rcases h1 with ⟨a, b⟩ | ⟨v, a, b⟩
  · rcases h2 with ⟨c, d⟩ | ⟨x, c, d⟩
    · omega
    · obtain ⟨j, e, _⟩ := c.1
      exact absurd e (a j)
  · rcases h2 with ⟨c, d⟩ | ⟨x, c, d⟩
    · obtain ⟨j, e, _⟩ := a.1
      exact absurd e (c j)
    · rw [a.uniq c] at b
      omega
theorem Step.uniq {s a b : St} (h1 : Step l n s a) (h2 : Step l n s b) : a = b := by
  cases h1 with
  | idle x y =>
    cases h2 with
    | idle u v => rw [y.uniq v]
    | run u v => exact absurd u.1 (x _)
  | run x y =>
    cases h2 with
    | idle u v => exact absurd x.1 (u _)
    | run u v =>
      obtain rfl := x.uniq u
      rw [y.uniq v]
theorem Step.notDone {s a : St} (h : Step l n s a) (hd : Done l n s) : False := by
  cases h with
  | idle x y =>
    obtain ⟨i, hi, _⟩ := y.1
    exact hd.2 i hi
  | run x y => exact hd.1 _ x.1
/-- From the front: a first step, and then some more. -/
theorem Reach.head {s0 s1 s : St} (h : Step l n s0 s1) (hr : Reach l n s1 s) : Reach l n s0 s := by
  induction hr with
  | refl => exact .next .refl h
  | next _ h2 ih => exact .next ih h2
theorem Reach.cases {s0 s : St} (h : Reach l n s0 s) : s = s0 ∨ ∃ s1, Step l n s0 s1 ∧ Reach l n s1 s := by
  induction h with
  | refl => exact .inl rfl
  | next h1 h2 ih =>
    rcases ih with rfl | ⟨s1, a, b⟩
    · exact .inr ⟨_, h2, .refl⟩
    · exact .inr ⟨s1, a, .next b h2⟩
theorem Reach.trans {a b c : St} (h1 : Reach l n a b) (h2 : Reach l n b c) : Reach l n a c := by
  induction h2 with
  | refl => exact h1
  | next _ h ih => exact .next ih h
/-- There is one end alone. -/
theorem Reach.uniq {s0 a b : St} (h1 : Reach l n s0 a) (hb : Reach l n s0 b) (ha : Done l n a) (hbd : Done l n b) : a = b := by
  have key : Reach l n a b ∨ Reach l n b a := by
    clear ha hbd
    induction h1 with
    | refl => exact .inl hb
    | next _ hs ih =>
      rcases ih with h | h
      · rcases h.cases with rfl | ⟨s1, h3, h4⟩
        · exact .inr (.next .refl hs)
        · rw [h3.uniq hs] at h4
          exact .inl h4
      · exact .inr (.next h hs)
  rcases key with h | h
  · rcases h.cases with e | ⟨s1, h3, _⟩
    · exact e.symm
    · exact (h3.notDone ha).elim
  · rcases h.cases with e | ⟨s1, h3, _⟩
    · exact e
    · exact (h3.notDone hbd).elim
/-- The sum of a law over the numbers below k. -/
def sumTo (f : Int → Int) : Nat → Int
  | 0 => 0
  | k + 1 => sumTo f k + f k
theorem sumTo_le {f g : Int → Int} : ∀ {k : Nat}, (∀ i : Nat, i < k → f i ≤ g i) → sumTo f k ≤ sumTo g k
  | 0, _ => Int.le_refl _
  | k + 1, h => by
    have a := sumTo_le (k := k) fun i hi => h i (by omega)
    have b := h k (by omega)
    simp only [sumTo]
    omega
theorem sumTo_zero : ∀ (k : Nat), sumTo (fun _ => 0) k = 0
  | 0 => rfl
  | k + 1 => by simp only [sumTo, sumTo_zero k]; omega
theorem sumTo_congr {f g : Int → Int} : ∀ {k : Nat}, (∀ i : Nat, i < k → f i = g i) → sumTo f k = sumTo g k
  | 0, _ => rfl
  | k + 1, h => by
    simp only [sumTo]
    rw [sumTo_congr (k := k) fun i hi => h i (by omega), h k (by omega)]
theorem sumTo_upd {f : Int → Int} {i : Nat} {x : Int} : ∀ {k : Nat}, i < k → sumTo (upd f i x) k = sumTo f k + (x - f i)
  | 0, h => by omega
  | k + 1, h => by
    simp only [sumTo]
    by_cases e : i = k
    · subst e
      rw [sumTo_congr (g := f) fun j hj => by unfold upd; rw [if_neg (by omega)]]
      have : upd f i x i = x := by unfold upd; rw [if_pos rfl]
      omega
    · rw [sumTo_upd (k := k) (by omega)]
      have : upd f i x k = f k := by unfold upd; rw [if_neg (by omega)]
      omega
/-- What holds all the while: nothing is left below 0, or more than the work; the time is not beyond the last release and the works done. -/
structure Sound (l : List Jb) (n : Nat) (s : St) : Prop where
  low : ∀ i, 0 ≤ s.left i
  high : ∀ i, s.left i ≤ (jat l i).work
  now0 : 0 ≤ s.now
  now1 : s.now ≤ 640000 + (sumTo (fun i => (jat l i).work) n - sumTo s.left n)
theorem Till.pos {s : St} {i t : Int} (hs : Sound l n s) (hi : IsOn l n s i) (h : Till l n s i t) : s.now < t ∧ t ≤ s.now + s.left i := by
  have h1 := hi.1.2.2.1
  have h2 := hs.low i
  rcases h with ⟨_, rfl⟩ | ⟨u, hu, rfl⟩
  · omega
  · obtain ⟨j, hj, rfl⟩ := hu.1
    have := hj.2.2.2
    omega
theorem Sound.step {s s' : St} (hrel : ∀ i, (jat l i).rel ≤ 640000) (h : Sound l n s) (hs : Step l n s s') : Sound l n s' ∧ s.now < s'.now := by
  cases hs with
  | idle x y =>
    rename_i t
    obtain ⟨j, hj, e⟩ := y.1
    have hj2 := hj.2.2.2
    have hr := hrel j
    have hsum := sumTo_le (k := n) (f := s.left) (g := fun i => (jat l i).work) fun i _ => h.high i
    refine ⟨⟨h.low, h.high, ?_, ?_⟩, ?_⟩
    · show 0 ≤ t
      have := h.now0
      omega
    · show t ≤ 640000 + (_ - sumTo s.left n)
      omega
    · show s.now < t
      omega
  | run x y =>
    rename_i i till
    have hp := Till.pos h x y
    obtain ⟨k, rfl⟩ := Int.eq_ofNat_of_zero_le x.1.1
    have hk : k < n := by have := x.1.2.1; omega
    refine ⟨⟨fun z => ?_, fun z => ?_, ?_, ?_⟩, hp.1⟩
    · show 0 ≤ upd s.left k _ z
      unfold upd
      split
      · omega
      · exact h.low z
    · show upd s.left k _ z ≤ _
      unfold upd
      split
      · rename_i e
        subst e
        have := h.high (k : Int)
        omega
      · exact h.high z
    · show 0 ≤ till
      have := h.now0
      omega
    · show till ≤ 640000 + (_ - sumTo (upd s.left k _) n)
      rw [sumTo_upd hk]
      have := h.now1
      omega
theorem Sound.reach {s0 s : St} (hrel : ∀ i, (jat l i).rel ≤ 640000) (h : Sound l n s0) (hr : Reach l n s0 s) : Sound l n s := by
  induction hr with
  | refl => exact h
  | next _ hs ih => exact (ih.step hrel hs).1
theorem Sound.start (hf : Fair l) : Sound l n (start l) :=
  ⟨fun i => (hf i).1, fun _ => Int.le_refl _, Int.le_refl _, by show (0 : Int) ≤ 640000 + (_ - _); simp [Ytnfcigbiebbjdaa.start]⟩
end
/-- The greatest lateness of n jobs; 0 if there are none. -/
def LateM (l : List Jb) (n : Nat) (f : Int → Int) (m : Int) : Prop :=
  (n = 0 ∧ m = 0) ∨ ((∃ i : Nat, i < n ∧ m = f i - (jat l i).due) ∧ ∀ i : Nat, i < n → f i - (jat l i).due ≤ m)
theorem LateM.uniq {l : List Jb} {n : Nat} {f : Int → Int} {a b : Int} (h1 : LateM l n f a) (h2 : LateM l n f b) : a = b := by
  rcases h1 with ⟨x, y⟩ | ⟨⟨i, x, y⟩, z⟩
  · rcases h2 with ⟨u, v⟩ | ⟨⟨j, u, v⟩, _⟩
    · omega
    · omega
  · rcases h2 with ⟨u, v⟩ | ⟨⟨j, u, v⟩, t⟩
    · omega
    · have := z j u
      have := t i x
      omega
end Go.Proofs.Ytnfcigbiebbjdaa
