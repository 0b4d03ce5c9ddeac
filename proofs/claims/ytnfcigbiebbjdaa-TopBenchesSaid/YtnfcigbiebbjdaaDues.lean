/-
  The plain mathematics of jobs by their dues: which jobs can be done on time; which orders keep what each job comes after; rising numbers. No program in sight.
  No conditions.
-/
import Derived.Test.YtnfcigbiebbjdaaG9
namespace Go.Proofs.Ytnfcigbiebbjdaa

def dueC (l : List Jb) (x y : Int) : Int := cmpI (jat l x).due (jat l y).due
def relC (l : List Jb) (x y : Int) : Int := cmpI (jat l x).rel (jat l y).rel
theorem due_swo (l : List Jb) : Swo (dueC l) where
  asymm x y := by unfold dueC; rw [cmpI_neg, cmpI_neg]; omega
  neg x y z := by unfold dueC; rw [cmpI_neg, cmpI_neg, cmpI_neg]; omega
theorem rel_swo (l : List Jb) : Swo (relC l) where
  asymm x y := by unfold relC; rw [cmpI_neg, cmpI_neg]; omega
  neg x y z := by unfold relC; rw [cmpI_neg, cmpI_neg, cmpI_neg]; omega
theorem due_le {l : List Jb} {x y : Int} (h : leOf (dueC l) x y) : (jat l x).due ≤ (jat l y).due := by
  have := h.1
  unfold dueC at this
  rw [cmpI_neg] at this
  omega
theorem rel_le {l : List Jb} {x y : Int} (h : leOf (relC l) x y) : (jat l x).rel ≤ (jat l y).rel := by
  have := h.1
  unfold relC at this
  rw [cmpI_neg] at this
  omega
theorem asc_agrees (cf : Int → Int → Int) {o : List Int} (h : o.Pairwise (fun x y : Int => x < y)) : o.Pairwise (Agrees cf (leOf cf)) :=
  h.imp (S := Agrees cf (leOf cf)) fun {x y} hxy => Swo.agree (cf := cf) (x := x) (y := y) (by omega)

/-- Each job of the order is done by its due, from t on. -/
def AbleF (l : List Jb) (t : Int) : List Int → Prop
  | [] => True
  | i :: r => t + (jat l i).work ≤ (jat l i).due ∧ AbleF l (t + (jat l i).work) r
/-- All that are due as early are done by then. -/
def AbleT (l : List Jb) (t : Int) (o : List Int) : Prop := ∀ i ∈ o, t + works l (o.filter fun k => decide ((jat l k).due ≤ (jat l i).due)) ≤ (jat l i).due
theorem able_iff (l : List Jb) (hf : Fair l) : ∀ (o : List Int) (t : Int), o.Pairwise (fun x y => (jat l x).due ≤ (jat l y).due) → (AbleF l t o ↔ AbleT l t o)
  | [], t, _ => ⟨fun _ i hi => by simp at hi, fun _ => trivial⟩
  | x :: r, t, h => by
    rw [List.pairwise_cons] at h
    have ih := able_iff l hf r (t + (jat l x).work) h.2
    have hx : ∀ i ∈ r, works l ((x :: r).filter fun k => decide ((jat l k).due ≤ (jat l i).due)) = (jat l x).work + works l (r.filter fun k => decide ((jat l k).due ≤ (jat l i).due)) := fun i hi => by
      rw [List.filter_cons_of_pos (by simpa using h.1 i hi)]
      rfl
    simp only [AbleF]
    rw [ih]
    constructor
    · rintro ⟨h1, h2⟩ i hi
      have key : ∀ j ∈ r, t + works l ((x :: r).filter fun k => decide ((jat l k).due ≤ (jat l j).due)) ≤ (jat l j).due := fun j hj => by
        have := h2 j hj
        rw [hx j hj]
        omega
      rcases List.mem_cons.1 hi with rfl | hi
      · by_cases he : ∃ j ∈ r, (jat l j).due ≤ (jat l i).due
        · obtain ⟨j, hj, hd⟩ := he
          have e : (jat l j).due = (jat l i).due := by have := h.1 j hj; omega
          have := key j hj
          rwa [e] at this
        · have e : r.filter (fun k => decide ((jat l k).due ≤ (jat l i).due)) = [] := List.filter_eq_nil_iff.2 fun j hj hd => he ⟨j, hj, by simpa using hd⟩
          rw [List.filter_cons_of_pos (by simp), e]
          simp only [works]
          omega
      · exact key i hi
    · intro h2
      constructor
      · have := h2 x (by simp)
        rw [List.filter_cons_of_pos (by simp)] at this
        simp only [works] at this
        have := works_nonneg l hf (r.filter fun k => decide ((jat l k).due ≤ (jat l x).due))
        omega
      · intro i hi
        have := h2 i (by simp [hi])
        rw [hx i hi] at this
        omega
theorem able_perm {l : List Jb} {t : Int} {o p : List Int} (h : o.Perm p) : AbleT l t o ↔ AbleT l t p := by
  unfold AbleT
  constructor
  · intro ha i hi
    have := ha i (h.mem_iff.2 hi)
    rwa [works_perm l (h.filter _)] at this
  · intro ha i hi
    have := ha i (h.mem_iff.1 hi)
    rwa [← works_perm l (h.filter _)] at this

/-- What each job comes after stands ahead of it. -/
theorem kept_pre {l : List Jb} {n : Nat} {o : List Int} (ho : isOrd n o) (hup : ∀ i, ∀ a ∈ (jat l i).after, 0 ≤ a ∧ a < i) :
    Kept l o ↔ ∀ (t : Nat) (z : Int), o[t]? = some z → ∀ a ∈ (jat l z).after, a ∈ o.take t := by
  unfold Kept
  rw [List.pairwise_iff_getElem]
  constructor
  · intro h t z hz a ha
    obtain ⟨t1, t2⟩ := List.getElem?_eq_some_iff.1 hz
    have hzr := ho.2.2 z (List.mem_of_getElem? hz)
    have ha2 := hup z a ha
    obtain ⟨s, hs⟩ := List.getElem?_of_mem ((ho.mem a).2 ⟨ha2.1, by omega⟩)
    obtain ⟨s1, s2⟩ := List.getElem?_eq_some_iff.1 hs
    rcases Nat.lt_trichotomy s t with hst | hst | hst
    · exact List.mem_of_getElem? (i := s) (by rw [List.getElem?_take_of_lt hst]; exact hs)
    · subst hst
      rw [hs] at hz
      injection hz with hz
      omega
    · exact absurd (by rw [t2, s2]; exact ha) (h t s t1 s1 hst)
  · intro h s t s1 t1 hst hm
    have h1 := h s _ (List.getElem?_eq_getElem s1) _ hm
    obtain ⟨u, hu⟩ := List.getElem?_of_mem h1
    obtain ⟨u1, u2⟩ := List.getElem?_eq_some_iff.1 hu
    rw [List.length_take] at u1
    rw [List.getElem_take] at u2
    exact (List.pairwise_iff_getElem.1 ho.2.1) u t (by omega) t1 (by omega) u2

/-- Numbers below n that rise. -/
def RiseP (n : Nat) (o : List Int) : Prop := (∀ x ∈ o, 0 ≤ x ∧ x < (n : Int)) ∧ o.Pairwise (fun x y : Int => x < y)
theorem riseB_iff {lim : Int} : ∀ {last : Int} {o : List Int}, riseB lim last o = true ↔ (∀ x ∈ o, last < x ∧ x < lim) ∧ o.Pairwise (fun x y : Int => x < y)
  | last, [] => by simp [riseB]
  | last, n :: r => by
    simp only [riseB, Bool.and_eq_true, decide_eq_true_eq, List.pairwise_cons, List.mem_cons]
    rw [riseB_iff (last := n) (o := r)]
    constructor
    · rintro ⟨h1, h2, h3, h4⟩
      refine ⟨fun x hx => ?_, fun x hx => (h3 x hx).1, h4⟩
      rcases hx with rfl | hx
      · exact ⟨h1, h2⟩
      · have := h3 x hx; omega
    · rintro ⟨h1, h2, h3⟩
      exact ⟨(h1 n (.inl rfl)).1, (h1 n (.inl rfl)).2, fun x hx => ⟨h2 x hx, (h1 x (.inr hx)).2⟩, h3⟩
theorem riseB_riseP {n : Nat} {o : List Int} : riseB n (-1) o = true ↔ RiseP n o := by
  rw [riseB_iff]
  unfold RiseP
  constructor
  · rintro ⟨h1, h2⟩
    exact ⟨fun x hx => by have := h1 x hx; omega, h2⟩
  · rintro ⟨h1, h2⟩
    exact ⟨fun x hx => by have := h1 x hx; omega, h2⟩
/-- The first k rise. -/
def RiseTo (n : Nat) (o : List Int) (k : Nat) : Prop := RiseP n (o.take k)
theorem RiseTo.zero (n : Nat) (o : List Int) : RiseTo n o 0 := ⟨by simp, by simp⟩
theorem RiseTo.next {n : Nat} {o : List Int} {k : Nat} {x : Int} (h : RiseTo n o k) (hx : o[k]? = some x) (h0 : 0 ≤ x) (h1 : x < n) (hn : ∀ y, 0 < k → o[k - 1]? = some y → y < x) : RiseTo n o (k + 1) := by
  unfold RiseTo RiseP at h ⊢
  rw [List.take_add_one, hx]
  refine ⟨fun z hz => ?_, ?_⟩
  · rcases List.mem_append.1 hz with hz | hz
    · exact h.1 z hz
    · obtain rfl : z = x := by simpa using hz
      exact ⟨h0, h1⟩
  · rw [List.pairwise_append]
    refine ⟨h.2, by simp, fun a ha b hb => ?_⟩
    obtain rfl : b = x := by simpa using hb
    obtain ⟨i, hi⟩ := List.getElem?_of_mem ha
    obtain ⟨i1, i2⟩ := List.getElem?_eq_some_iff.1 hi
    have hik : i < k := by rw [List.length_take] at i1; omega
    have hkl := (List.getElem?_eq_some_iff.1 hx).1
    have hlast := hn _ (by omega) (List.getElem?_eq_getElem (show k - 1 < o.length by omega))
    rcases Nat.lt_or_ge i (k - 1) with h2 | h2
    · have h3 : k - 1 < (o.take k).length := by rw [List.length_take]; omega
      have := (List.pairwise_iff_getElem.1 h.2) i (k - 1) i1 h3 h2
      rw [i2, List.getElem_take] at this
      omega
    · obtain rfl : i = k - 1 := by omega
      rw [List.getElem_take] at i2
      omega
theorem RiseP.bad {n : Nat} {o : List Int} {k : Nat} {x y : Int} (h : RiseP n o) (hx : o[k]? = some x) (h0 : 0 < k) (hy : o[k - 1]? = some y) : y < x := by
  obtain ⟨a, b⟩ := List.getElem?_eq_some_iff.1 hx
  obtain ⟨c, d⟩ := List.getElem?_eq_some_iff.1 hy
  have := (List.pairwise_iff_getElem.1 h.2) (k - 1) k c a (by omega)
  omega
end Go.Proofs.Ytnfcigbiebbjdaa
