/-
  The plain mathematics of the sweep's slices: they keep the releases, give each job its work, and do not overlap.
  No conditions.
-/
import Derived.Test.YtnfcigbiebbjdaaCrw
namespace Go.Proofs.Ytnfcigbiebbjdaa

/-- What is worked at job j in the slices. -/
def slw (j : Int) : List Sl → Int
  | [] => 0
  | z :: r => slw j r + if z.job = j then z.till - z.fr else 0
/-- When job j was last worked at; the slices stand with the last one first. -/
def sll (j : Int) : List Sl → Int
  | [] => 0
  | z :: r => if z.job = j then z.till else sll j r
/-- What holds of the slices all the while. -/
structure SlI (l : List Jb) (n : Nat) (s : St) : Prop where
  each : ∀ z ∈ s.out, 0 ≤ z.job ∧ z.job < n ∧ z.fr < z.till ∧ (jat l z.job).rel ≤ z.fr ∧ z.till ≤ s.now
  apart : s.out.Pairwise fun z y => y.till ≤ z.fr
  work : ∀ j, slw j s.out = (jat l j).work - s.left j
  last : ∀ j, sll j s.out = s.fin j
theorem SlI.start (l : List Jb) (n : Nat) : SlI l n (Ytnfcigbiebbjdaa.start l) :=
  ⟨fun z hz => (by cases hz), List.Pairwise.nil, fun j => (by show (0 : Int) = (jat l j).work - (jat l j).work; omega), fun j => rfl⟩
theorem SlI.step {l : List Jb} {n : Nat} {s s' : St} (h : SlI l n s) (hS : Sound l n s) (hs : Step l n s s') : SlI l n s' := by
  cases hs with
  | idle x y =>
    rename_i t
    obtain ⟨j, hj, e⟩ := y.1
    have := hj.2.2.2
    exact ⟨fun z hz => by have := h.each z hz; show 0 ≤ z.job ∧ z.job < n ∧ z.fr < z.till ∧ (jat l z.job).rel ≤ z.fr ∧ z.till ≤ t; omega, h.apart, h.work, h.last⟩
  | run x y =>
    rename_i i t
    have hp := Till.pos hS x y
    have hi := x.1
    have h0 := hi.1
    have h1 := hi.2.1
    have hr := hi.2.2.2
    have hwork : ∀ j, slw j (addSl s.out i s.now t) = slw j s.out + if i = j then t - s.now else 0 := fun j => by
      unfold addSl
      split
      · rename_i e; rw [e]; rfl
      · rename_i z r e
        split
        · rename_i g
          rw [e]
          simp only [slw]
          rw [g.1, g.2]
          split <;> omega
        · rw [e]; rfl
    have hlast : ∀ j, sll j (addSl s.out i s.now t) = if i = j then t else sll j s.out := fun j => by
      unfold addSl
      split
      · rename_i e; rw [e]; rfl
      · rename_i z r e
        split
        · rename_i g
          rw [e]
          simp only [sll]
          rw [g.1]
          split <;> rfl
        · rw [e]; rfl
    refine ⟨fun z hz => ?_, ?_, fun j => ?_, fun j => ?_⟩
    · show 0 ≤ z.job ∧ z.job < n ∧ z.fr < z.till ∧ (jat l z.job).rel ≤ z.fr ∧ z.till ≤ t
      have hz2 : z ∈ addSl s.out i s.now t := hz
      unfold addSl at hz2
      split at hz2
      · obtain rfl : z = ⟨i, s.now, t⟩ := by simpa using hz2
        exact ⟨h0, h1, hp.1, hr, Int.le_refl _⟩
      · rename_i y r e
        split at hz2
        · rename_i g
          rcases List.mem_cons.1 hz2 with rfl | hz3
          · have h2 := h.each y (by rw [e]; exact List.mem_cons_self ..)
            show 0 ≤ y.job ∧ y.job < n ∧ y.fr < t ∧ (jat l y.job).rel ≤ y.fr ∧ t ≤ t
            have := g.2
            omega
          · have h2 := h.each z (by rw [e]; exact List.mem_cons_of_mem _ hz3)
            omega
        · rcases List.mem_cons.1 hz2 with rfl | hz3
          · exact ⟨h0, h1, hp.1, hr, Int.le_refl _⟩
          · have h2 := h.each z (by rw [e]; exact hz3)
            omega
    · show (addSl s.out i s.now t).Pairwise _
      have hall : ∀ y ∈ s.out, y.till ≤ s.now := fun y hy => (h.each y hy).2.2.2.2
      have hap := h.apart
      unfold addSl
      split
      · exact List.pairwise_singleton _ _
      · rename_i y r e
        rw [e] at hall hap
        split
        · exact List.pairwise_cons.2 ⟨(List.pairwise_cons.1 hap).1, (List.pairwise_cons.1 hap).2⟩
        · exact List.pairwise_cons.2 ⟨fun z hz => hall z hz, hap⟩
    · show slw j (addSl s.out i s.now t) = (jat l j).work - upd s.left i (s.left i - (t - s.now)) j
      rw [hwork, h.work]
      unfold upd
      by_cases e : j = i
      · subst e; simp; omega
      · rw [if_neg e, if_neg (fun g => e g.symm)]; omega
    · show sll j (addSl s.out i s.now t) = upd s.fin i t j
      rw [hlast, h.last]
      unfold upd
      by_cases e : j = i
      · subst e; simp
      · rw [if_neg e, if_neg (fun g => e g.symm)]
theorem SlI.reach {l : List Jb} {n : Nat} {s : St} (hv : validB l = true) (hr : Reach l n (Ytnfcigbiebbjdaa.start l) s) : SlI l n s := by
  have h0 := Sound.start (n := n) (validB_fair hv)
  induction hr with
  | refl => exact SlI.start l n
  | next hr hs ih => exact ih.step (h0.reach (fun i => (jat_calm hv i).2.2.2.2.2) hr) hs
theorem slw_nonneg (j : Int) : ∀ {os : List Sl}, (∀ z ∈ os, z.fr < z.till) → 0 ≤ slw j os
  | [], _ => Int.le_refl _
  | z :: r, h => by
    have h1 := slw_nonneg j (os := r) fun y hy => h y (List.mem_cons_of_mem _ hy)
    have h2 := h z (List.mem_cons_self ..)
    simp only [slw]
    split <;> omega
theorem slw_drop (j : Int) : ∀ {os : List Sl} (m : Nat), (∀ z ∈ os, z.fr < z.till) → slw j (os.drop m) ≤ slw j os
  | [], m, _ => by simp
  | z :: r, 0, h => Int.le_refl _
  | z :: r, m + 1, h => by
    have h1 := slw_drop j (os := r) m fun y hy => h y (List.mem_cons_of_mem _ hy)
    have h2 := h z (List.mem_cons_self ..)
    simp only [slw, List.drop_succ_cons]
    split <;> omega
/-- The first k slices. -/
def wF (os : List Sl) (k : Nat) (j : Int) : Int := slw j (os.take k).reverse
def dF (os : List Sl) (k : Nat) (j : Int) : Int := sll j (os.take k).reverse
theorem take_rev {os : List Sl} {k : Nat} {z : Sl} (h : os[k]? = some z) : (os.take (k + 1)).reverse = z :: (os.take k).reverse := by
  rw [List.take_add_one, h]
  simp
theorem wF_succ {os : List Sl} {k : Nat} {z : Sl} (h : os[k]? = some z) (j : Int) : wF os (k + 1) j = wF os k j + if z.job = j then z.till - z.fr else 0 := by
  unfold wF
  rw [take_rev h]
  rfl
theorem dF_succ {os : List Sl} {k : Nat} {z : Sl} (h : os[k]? = some z) (j : Int) : dF os (k + 1) j = if z.job = j then z.till else dF os k j := by
  unfold dF
  rw [take_rev h]
  rfl
/-- What the law asks of the slices, in their order. -/
structure SlW (l : List Jb) (n : Nat) (f : Int → Int) (os : List Sl) : Prop where
  each : ∀ (k : Nat) (z : Sl), os[k]? = some z → 0 ≤ z.job ∧ z.job < n ∧ z.fr < z.till ∧ (jat l z.job).rel ≤ z.fr ∧ z.till ≤ 1280000
  apart : ∀ (k : Nat) (y z : Sl), os[k]? = some y → os[k + 1]? = some z → y.till ≤ z.fr
  low : ∀ k j, 0 ≤ wF os k j
  high : ∀ k j, wF os k j ≤ (jat l j).work
  work : ∀ j : Nat, j < n → wF os os.length j = (jat l j).work
  last : ∀ j : Nat, j < n → dF os os.length j = f j
theorem SlI.law {l : List Jb} {n : Nat} {s : St} (hv : validB l = true) (hn : n ≤ 64) (hr : Reach l n (Ytnfcigbiebbjdaa.start l) s) (hd : Done l n s) : SlW l n s.fin s.out.reverse := by
  have h := SlI.reach hv hr
  have hS := (Sound.start (n := n) (validB_fair hv)).reach (fun i => (jat_calm hv i).2.2.2.2.2) hr
  have hb := hS.bound hv hn
  have hz := hd.zero
  have hall : ∀ z ∈ s.out, z.fr < z.till := fun z hz => (h.each z hz).2.2.1
  have hrev : ∀ k, (s.out.reverse.take k).reverse = s.out.drop (s.out.length - k) := fun k => by
    rw [List.take_reverse, List.reverse_reverse]
  have hmem : ∀ k, ∀ z ∈ s.out.drop k, z.fr < z.till := fun k z hz => hall z (List.mem_of_mem_drop hz)
  refine ⟨fun k z hk => ?_, fun k y z hy hz => ?_, fun k j => ?_, fun k j => ?_, fun j hj => ?_, fun j hj => ?_⟩
  · have h1 := h.each z (List.mem_reverse.1 (List.mem_of_getElem? hk))
    omega
  · have h1 : s.out.reverse.Pairwise fun y z => y.till ≤ z.fr := List.pairwise_reverse.2 h.apart
    obtain ⟨h2, h3⟩ := List.getElem?_eq_some_iff.1 hy
    obtain ⟨h4, h5⟩ := List.getElem?_eq_some_iff.1 hz
    rw [← h3, ← h5]
    exact List.pairwise_iff_getElem.1 h1 k (k + 1) h2 h4 (by omega)
  · unfold wF
    rw [hrev]
    exact slw_nonneg j (hmem _)
  · unfold wF
    rw [hrev]
    have h1 := slw_drop j (s.out.length - k) hall
    have h2 := h.work j
    have h3 := hS.low j
    omega
  · unfold wF
    rw [hrev, List.length_reverse, Nat.sub_self, List.drop_zero, h.work, hz j hj]
    omega
  · unfold dF
    rw [hrev, List.length_reverse, Nat.sub_self, List.drop_zero, h.last]
end Go.Proofs.Ytnfcigbiebbjdaa
