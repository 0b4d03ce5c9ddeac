/-
  The plain mathematics of the law through the layers: without releases the sweep, Lawler's order, the most on time and Johnson's order tell one thing. No program in sight.
  No conditions.
-/
import Derived.Test.YtnfcigbiebbjdaaMoreP
namespace Go.Proofs.Ytnfcigbiebbjdaa

/-- Jobs without releases, all of weight 1, none after another. -/
structure Plain (l : List Jb) (n : Nat) : Prop where
  len : l.length = n
  valid : validB l = true
  rel : ∀ i : Int, 0 ≤ i → i < n → (jat l i).rel = 0
  wt : ∀ i : Int, 0 ≤ i → i < n → (jat l i).wt = 1
  work : ∀ i : Int, 0 ≤ i → i < n → 1 ≤ (jat l i).work
  after : ∀ i : Int, (jat l i).after = []
theorem works_low {l : List Jb} (hf : Fair l) : ∀ o : List Int, 0 ≤ works l o
  | [] => Int.le_refl _
  | i :: r => by
    have := (hf i).1
    have := works_low hf r
    simp only [works]
    omega
/-- The works of the jobs that are due till d. -/
theorem works_win {l : List Jb} {d : Int} : ∀ {n : Nat}, (∀ i : Int, 0 ≤ i → i < n → (jat l i).rel = 0) → works l ((nums n).filter fun k => decide ((jat l k).due ≤ d)) = winS l 0 d n
  | 0, _ => rfl
  | n + 1, h => by
    have ih := works_win (l := l) (d := d) (n := n) fun i i0 i1 => h i i0 (by omega)
    rw [nums_succ, List.filter_append, works_append, ih]
    show winS l 0 d n + _ = winS l 0 d n + (if InW l 0 d n then (jat l n).work else 0)
    congr 1
    have h0 := h n (by omega) (by omega)
    by_cases g : (jat l n).due ≤ d
    · rw [if_pos (show InW l 0 d n from ⟨by omega, g⟩)]
      simp [g, works]
    · rw [if_neg (fun hh : InW l 0 d n => g hh.2)]
      simp [g, works]
theorem works_win_perm {l : List Jb} {d : Int} {n : Nat} {o : List Int} (hp : o.Perm (nums n)) (h : ∀ i : Int, 0 ≤ i → i < n → (jat l i).rel = 0) : works l (o.filter fun k => decide ((jat l k).due ≤ d)) = winS l 0 d n := by
  rw [works_perm l (hp.filter _), works_win h]
/-- The last one of those that are due till d is late by what they take. -/
theorem late_win {l : List Jb} (hf : Fair l) {d : Int} : ∀ (o : List Int) (t : Int), (∀ x ∈ o, (jat l x).wt = 1) → (∃ x ∈ o, (jat l x).due ≤ d) → t + works l (o.filter fun k => decide ((jat l k).due ≤ d)) - d ≤ lateF l t o
  | [], _, _, ⟨x, hx, _⟩ => by cases hx
  | i :: r, t, hw, _ => by
    have h1 := hw i (List.mem_cons_self ..)
    have hfi : fineJ (jat l i) (t + (jat l i).work) = max 0 (t + (jat l i).work - (jat l i).due) := by unfold fineJ; rw [h1, Int.one_mul]
    have hwi := (hf i).1
    simp only [lateF]
    rw [hfi]
    by_cases hr : ∃ x ∈ r, (jat l x).due ≤ d
    · have ih := late_win hf r (t + (jat l i).work) (fun x hx => hw x (List.mem_cons_of_mem _ hx)) hr
      rw [List.filter_cons]
      split
      · simp only [works]; omega
      · omega
    · have he : r.filter (fun k => decide ((jat l k).due ≤ d)) = [] := List.filter_eq_nil_iff.2 fun x hx => by
        have : ¬ (jat l x).due ≤ d := fun g => hr ⟨x, hx, g⟩
        simpa using this
      have hl := lateF_nonneg l (t + (jat l i).work) r
      rename_i hex
      obtain ⟨x, hx, hd⟩ := hex
      rcases List.mem_cons.1 hx with rfl | hx
      · rw [List.filter_cons_of_pos (by simpa using hd), he]
        simp only [works]
        omega
      · exact (hr ⟨x, hx, hd⟩).elim
theorem late_le {l : List Jb} {D : Int} (hD : 0 ≤ D) : ∀ (o : List Int) (t : Int), (∀ p i q, o = p ++ i :: q → fineJ (jat l i) (t + works l p + (jat l i).work) ≤ D) → lateF l t o ≤ D
  | [], _, _ => hD
  | i :: r, t, h => by
    have h1 := h [] i r rfl
    have h2 := late_le hD r (t + (jat l i).work) fun p j q e => by
      have h3 := h (i :: p) j q (by rw [e]; rfl)
      simp only [works] at h3
      rw [show t + (jat l i).work + works l p = t + ((jat l i).work + works l p) by omega]
      exact h3
    simp only [works, Int.add_zero] at h1
    simp only [lateF]
    omega
theorem insert_by (f : Int → Int) (x : Int) : ∀ o : List Int, o.Pairwise (fun a b => f a ≤ f b) → ∃ p : List Int, p.Perm (x :: o) ∧ p.Pairwise (fun a b => f a ≤ f b)
  | [], _ => ⟨[x], List.Perm.refl _, List.pairwise_singleton _ _⟩
  | y :: r, h => by
    by_cases g : f x ≤ f y
    · refine ⟨x :: y :: r, List.Perm.refl _, List.pairwise_cons.2 ⟨fun z hz => ?_, h⟩⟩
      rcases List.mem_cons.1 hz with rfl | hz
      · exact g
      · have := (List.pairwise_cons.1 h).1 z hz
        omega
    · obtain ⟨p, h1, h2⟩ := insert_by f x r (List.pairwise_cons.1 h).2
      refine ⟨y :: p, (h1.cons y).trans (List.Perm.swap x y r), List.pairwise_cons.2 ⟨fun z hz => ?_, h2⟩⟩
      rcases List.mem_cons.1 (h1.mem_iff.1 hz) with rfl | hz
      · omega
      · exact (List.pairwise_cons.1 h).1 z hz
theorem sorted_by (f : Int → Int) : ∀ T : List Int, ∃ o : List Int, o.Perm T ∧ o.Pairwise (fun a b => f a ≤ f b)
  | [] => ⟨[], List.Perm.refl _, List.Pairwise.nil⟩
  | x :: r => by
    obtain ⟨o, h1, h2⟩ := sorted_by f r
    obtain ⟨p, h3, h4⟩ := insert_by f x o h2
    exact ⟨p, h3.trans (h1.cons x), h4⟩
section
variable {l : List Jb} {n : Nat} {s : St} {m : Int}
theorem Plain.wk (H : Plain l n) : ∀ i : Nat, i < n → (jat l i).work ≠ 0 := fun i hi => by have := H.work i (by omega) (by omega); omega
/-- For the sweep: each due has a window that is no worse. -/
theorem Plain.win (H : Plain l n) (hr : Reach l n (start l) s) (hd : Done l n s) (hm : LateM l n s.fin m) {k : Int} (k0 : 0 ≤ k) (k1 : k < n) : winS l 0 (jat l k).due n - (jat l k).due ≤ m := by
  have hpos : 0 < winS l 0 (jat l k).due n := by
    obtain ⟨q, rfl⟩ := Int.eq_ofNat_of_zero_le k0
    have h4 := sumTo_ge (k := n) (i := q) (f := fun i => if InW l 0 (jat l q).due i then (jat l i).work else 0) (fun i => by
      have := (jat_calm H.valid i).1
      show (0 : Int) ≤ if InW l 0 (jat l q).due i then (jat l i).work else 0
      split <;> omega) (by omega)
    have h5 : (if InW l 0 (jat l q).due q then (jat l (q : Int)).work else 0) = (jat l q).work := if_pos ⟨by rw [H.rel q k0 k1]; exact Int.le_refl _, Int.le_refl _⟩
    have h6 := H.work q k0 k1
    have h8 : (jat l (q : Int)).work ≤ winS l 0 (jat l q).due n := by
      have := h4; simp only [h5] at this; exact this
    omega
  have := hm.window H.valid hr hd hpos
  omega
theorem Plain.worst (H : Plain l n) (hn : 0 < n) (hr : Reach l n (start l) s) (hd : Done l n s) (hm : LateM l n s.fin m) : ∃ k : Nat, k < n ∧ m = winS l 0 (jat l k).due n - (jat l k).due := by
  obtain ⟨i, k, hi, hk, _, h2⟩ := hm.worst H.valid H.wk hr hd hn
  rw [H.rel i (by omega) (by omega)] at h2
  exact ⟨k, hk, by omega⟩
/-- Lawler's order is late as the sweep is. -/
theorem Plain.lawler (H : Plain l n) (hn : 0 < n) (hr : Reach l n (start l) s) (hd : Done l n s) (hm : LateM l n s.fin m) {o : List Int} (hG : GoodL l n o) (ho : o.length = n) : max m 0 = lateF l 0 o := by
  have hf := validB_fair H.valid
  have hp := ((hG.good l).ord l ho).perm
  have hin : ∀ x ∈ o, 0 ≤ x ∧ x < (n : Int) := fun x hx => mem_nums.1 (hp.mem_iff.1 hx)
  have h0 := lateF_nonneg l 0 o
  have hge : m ≤ lateF l 0 o := by
    obtain ⟨k, hk, e⟩ := H.worst hn hr hd hm
    have h1 := late_win hf (d := (jat l k).due) o 0 (fun x hx => H.wt x (hin x hx).1 (hin x hx).2) ⟨k, hp.mem_iff.2 (mem_nums.2 ⟨by omega, by omega⟩), Int.le_refl _⟩
    rw [works_win_perm hp H.rel] at h1
    omega
  have hle : lateF l 0 o ≤ max m 0 := by
    obtain ⟨e, he1, he2⟩ := sorted_by (fun i => (jat l i).due) (nums n)
    have hK : Kept l e := by
      unfold Kept
      exact he2.imp fun {x y} _ => by rw [H.after x]; simp
    have h1 := Good.least l hf (fun i => by rw [H.after i]; simp) (hG.good l) ho he1 hK
    have h2 : lateF l 0 e ≤ max m 0 := by
      refine late_le (by omega) e 0 fun p i q he => ?_
      have hi : i ∈ e := by rw [he]; simp
      have hib := mem_nums.1 (he1.mem_iff.1 hi)
      have hw := H.win hr hd hm hib.1 hib.2
      have hsub : works l p + (jat l i).work ≤ winS l 0 (jat l i).due n := by
        rw [← works_win_perm he1 H.rel, he, List.filter_append, works_append]
        rw [he] at he2
        have hpi : p.filter (fun k => decide ((jat l k).due ≤ (jat l i).due)) = p := List.filter_eq_self.2 fun x hx => by
          have := (List.pairwise_append.1 he2).2.2 x hx i (List.mem_cons_self ..)
          simpa using this
        rw [hpi, List.filter_cons_of_pos (by simp)]
        simp only [works]
        have := works_low hf (q.filter fun k => decide ((jat l k).due ≤ (jat l i).due))
        omega
      unfold fineJ
      rw [H.wt i hib.1 hib.2, Int.one_mul]
      omega
    omega
  omega
/-- All can be done by their due exactly if nothing is late. -/
theorem Plain.ontime (H : Plain l n) (hn : 0 < n) (hr : Reach l n (start l) s) (hd : Done l n s) (hm : LateM l n s.fin m) {o : List Int} {q : Nat} (ho : RiseP n o) (hA : AbleT l 0 o) (hq : o.length = q)
    (hB : ∀ T : List Int, T.Nodup → (∀ z ∈ T, 0 ≤ z ∧ z < (n : Int)) → AbleT l 0 T → T.length ≤ q) : m ≤ 0 ↔ q = n := by
  have hnd : o.Nodup := ho.2.imp fun {x y} h e => by omega
  have hqn : q ≤ n := by have := short_of_nodup n o hnd ho.1; omega
  constructor
  · intro h0
    have h1 := hB (nums n) (nums_nodup n) (fun z hz => mem_nums.1 hz) (fun i hi => by
      have hib := mem_nums.1 hi
      rw [works_win H.rel]
      have := H.win hr hd hm hib.1 hib.2
      omega)
    rw [nums_length] at h1
    omega
  · intro hqe
    have hp : o.Perm (nums n) := isOrd.perm ⟨by omega, hnd, ho.1⟩
    obtain ⟨k, hk, e⟩ := H.worst hn hr hd hm
    have h1 := (able_perm hp).1 hA k (mem_nums.2 ⟨by omega, by omega⟩)
    rw [works_win H.rel] at h1
    omega
end
/-- With no time on the second bench the length is that of all works. -/
theorem lenF_sum {a b : List Int} (ha : ∀ i, 0 ≤ iat a i) (hb : ∀ i, iat b i = 0) : ∀ (o : List Int) (t : Int), lenF a b t t o = t + sums a o
  | [], t => by simp [lenF, sums]
  | i :: r, t => by
    have h1 := ha i
    simp only [lenF, sums, hb i, Int.add_zero]
    rw [show max (t + iat a i) t = t + iat a i by omega, lenF_sum ha hb r]
    omega
end Go.Proofs.Ytnfcigbiebbjdaa
