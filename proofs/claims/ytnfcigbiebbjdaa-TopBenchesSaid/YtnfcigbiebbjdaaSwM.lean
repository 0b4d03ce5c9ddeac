/-
  The plain mathematics of the sweep's loop: who waits in the heap, who is still to come; how late at most.
  No conditions.
-/
import Derived.Test.YtnfcigbiebbjdaaSwD
namespace Go.Proofs.Ytnfcigbiebbjdaa
open Go.RowKit

/-- The numbers that count how many are done, and how late at most. -/
def DoneM (l : List Jb) (n : Nat) (s : St) (q m : Int) : Prop :=
  (q = 0 ∧ m = 0 ∧ ∀ i : Int, 0 ≤ i → i < n → s.left i ≠ 0) ∨ (0 < q ∧ (∃ i : Nat, i < n ∧ s.left i = 0 ∧ m = s.fin i - (jat l i).due) ∧ ∀ i : Nat, i < n → s.left i = 0 → s.fin i - (jat l i).due ≤ m)
/-- What is in the heap, and what is still to come. -/
structure Split (l : List Jb) (n : Nat) (s : St) (d : List Int) (p : Nat) (L : List Int) : Prop where
  nodup : L.Nodup
  mem : ∀ i, i ∈ L ↔ i ∈ d.take p ∧ s.left i ≠ 0
  came : ∀ i ∈ d.take p, (jat l i).rel ≤ s.now
  rest : ∀ i ∈ d.drop p, s.left i ≠ 0
/-- All that is to come comes later. -/
def Rest (l : List Jb) (s : St) (d : List Int) (p : Nat) : Prop := p = d.length ∨ p < d.length ∧ s.now < (jat l (at_ d p)).rel

theorem drop_at {d : List Int} {p : Nat} (h : p < d.length) : d.drop p = at_ d p :: d.drop (p + 1) := drop_step (getD_get h)
theorem take_at {d : List Int} {p : Nat} (h : p < d.length) : d.take (p + 1) = d.take p ++ [at_ d p] := by
  rw [List.take_add_one, show d[p]? = some (at_ d p) from getD_get h]
  rfl
theorem mem_cut {d : List Int} (p : Nat) {i : Int} (h : i ∈ d) : i ∈ d.take p ∨ i ∈ d.drop p := by
  rw [← List.take_append_drop p d] at h
  exact List.mem_append.1 h
theorem cut_apart {d : List Int} (hnd : d.Nodup) (p : Nat) {i : Int} (h1 : i ∈ d.take p) (h2 : i ∈ d.drop p) : False := by
  rw [← List.take_append_drop p d] at hnd
  exact (List.nodup_append.1 hnd).2.2 i h1 i h2 rfl
theorem sorted_drop {l : List Jb} {d : List Int} (hs : d.Pairwise fun x y => (jat l x).rel ≤ (jat l y).rel) {p : Nat} (hp : p < d.length) {i : Int} (h : i ∈ d.drop p) : (jat l (at_ d p)).rel ≤ (jat l i).rel := by
  have h1 : (d.drop p).Pairwise fun x y => (jat l x).rel ≤ (jat l y).rel := hs.sublist (List.drop_sublist _ _)
  rw [drop_at hp] at h h1
  rcases List.mem_cons.1 h with e | e
  · rw [e]; exact Int.le_refl _
  · exact (List.pairwise_cons.1 h1).1 i e
section
variable {l : List Jb} {n : Nat} {s : St} {d L : List Int} {p : Nat}
theorem Split.push (h : Split l n s d p L) (hnd : d.Nodup) (hp : p < d.length) (hr : (jat l (at_ d p)).rel ≤ s.now) {L' : List Int} (hL : L'.Perm (at_ d p :: L)) : Split l n s d (p + 1) L' := by
  have hx : at_ d p ∈ d.drop p := by rw [drop_at hp]; exact List.mem_cons_self ..
  have hne : at_ d p ∉ L := fun hm => cut_apart hnd p ((h.mem _).1 hm).1 hx
  refine ⟨?_, fun i => ?_, fun i hi => ?_, fun i hi => ?_⟩
  · exact hL.nodup_iff.2 (List.nodup_cons.2 ⟨hne, h.nodup⟩)
  · rw [hL.mem_iff, take_at hp, List.mem_cons, List.mem_append, h.mem]
    constructor
    · rintro (rfl | ⟨a, b⟩)
      · exact ⟨.inr (by simp), h.rest _ hx⟩
      · exact ⟨.inl a, b⟩
    · rintro ⟨a | a, b⟩
      · exact .inr ⟨a, b⟩
      · exact .inl (by simpa using a)
  · rw [take_at hp] at hi
    rcases List.mem_append.1 hi with a | a
    · exact h.came i a
    · obtain rfl : i = at_ d p := by simpa using a
      exact hr
  · exact h.rest i (by rw [drop_at hp]; exact List.mem_cons_of_mem _ hi)
theorem Split.ready (h : Split l n s d p L) (hP : d.Perm (nums n)) (hs : d.Pairwise fun x y => (jat l x).rel ≤ (jat l y).rel) (hR : Rest l s d p) {i : Int} (hi : Ready l n s i) : i ∈ L := by
  have hm : i ∈ d := hP.mem_iff.2 (mem_nums.2 ⟨hi.1, hi.2.1⟩)
  rcases mem_cut p hm with a | a
  · exact (h.mem i).2 ⟨a, hi.2.2.1⟩
  · rcases hR with e | ⟨e, f⟩
    · subst e; simp at a
    · have := sorted_drop hs e a
      have := hi.2.2.2
      omega
theorem Split.isReady (h : Split l n s d p L) (hP : d.Perm (nums n)) {i : Int} (hi : i ∈ L) : Ready l n s i := by
  have h1 := (h.mem i).1 hi
  have h2 := mem_nums.1 (hP.mem_iff.1 (List.mem_of_mem_take h1.1))
  exact ⟨h2.1, h2.2, h1.2, h.came i h1.1⟩
theorem Split.noNext (h : Split l n s d d.length L) (hP : d.Perm (nums n)) : NoNext l n s := fun i hi => by
  have hm : i ∈ d := hP.mem_iff.2 (mem_nums.2 ⟨hi.1, hi.2.1⟩)
  have := h.came i (by rw [List.take_length]; exact hm)
  have := hi.2.2.2
  omega
theorem Split.next (h : Split l n s d p L) (hP : d.Perm (nums n)) (hs : d.Pairwise fun x y => (jat l x).rel ≤ (jat l y).rel) (hp : p < d.length) (hr : s.now < (jat l (at_ d p)).rel) : IsNext l n s (jat l (at_ d p)).rel := by
  have hx : at_ d p ∈ d.drop p := by rw [drop_at hp]; exact List.mem_cons_self ..
  have h2 := mem_nums.1 (hP.mem_iff.1 (List.mem_of_mem_drop hx))
  refine ⟨⟨at_ d p, ⟨h2.1, h2.2, h.rest _ hx, hr⟩, rfl⟩, fun j hj => ?_⟩
  have hm : j ∈ d := hP.mem_iff.2 (mem_nums.2 ⟨hj.1, hj.2.1⟩)
  rcases mem_cut p hm with a | a
  · have := h.came j a
    have := hj.2.2.2
    omega
  · exact sorted_drop hs hp a
theorem Split.on (h : Split l n s d p L) (hP : d.Perm (nums n)) (hs : d.Pairwise fun x y => (jat l x).rel ≤ (jat l y).rel) (hR : Rest l s d p) (hL : HeapP (urgLt l) L L.length) (h0 : 0 < L.length) : IsOn l n s (at_ L 0) := by
  refine ⟨h.isReady hP (List.mem_of_getElem? (getD_get h0)), fun j hj => ?_⟩
  obtain ⟨k, hk⟩ := List.getElem?_of_mem (h.ready hP hs hR hj)
  have h1 := HeapP.top (urgLt_lt l) hL k (List.getElem?_eq_some_iff.1 hk).1
  have e : at_ L k = j := by unfold at_; rw [List.getD_eq_getElem?_getD, hk]; rfl
  rw [e] at h1
  unfold urgLt at h1
  simp at h1
  omega
theorem Split.noOn (h : Split l n s d p []) (hP : d.Perm (nums n)) (hs : d.Pairwise fun x y => (jat l x).rel ≤ (jat l y).rel) (hR : Rest l s d p) : NoOn l n s := fun i hi => by
  have := h.ready hP hs hR hi
  simp at this
theorem Split.idle (h : Split l n s d p L) {t : Int} (ht : s.now ≤ t) : Split l n { s with now := t } d p L :=
  ⟨h.nodup, h.mem, fun i hi => Int.le_trans (h.came i hi) ht, h.rest⟩
theorem Split.run_ (h : Split l n s d p L) (hnd : d.Nodup) {i t : Int} (hi : i ∈ L) (ht : s.now ≤ t) (hl : s.left i - (t - s.now) ≠ 0) : Split l n (run s i t) d p L := by
  have hc := (h.mem i).1 hi
  refine ⟨h.nodup, fun j => ?_, fun j hj => Int.le_trans (h.came j hj) ht, fun j hj => ?_⟩
  · rw [h.mem]
    show _ ↔ _ ∧ upd s.left i _ j ≠ 0
    unfold upd
    by_cases e : j = i
    · subst e; simp [hl, hc.2]
    · simp [e]
  · show upd s.left i _ j ≠ 0
    unfold upd
    by_cases e : j = i
    · subst e; exact (cut_apart hnd p hc.1 hj).elim
    · simp [e]; exact h.rest j hj
theorem Split.done_ (h : Split l n s d p L) (hnd : d.Nodup) {i t : Int} (hi : i ∈ L) (ht : s.now ≤ t) (hl : s.left i - (t - s.now) = 0) {L' : List Int} (hL : (i :: L').Perm L) : Split l n (run s i t) d p L' := by
  have hc := (h.mem i).1 hi
  have hnl := List.nodup_cons.1 (hL.nodup_iff.2 h.nodup)
  refine ⟨hnl.2, fun j => ?_, fun j hj => Int.le_trans (h.came j hj) ht, fun j hj => ?_⟩
  · show _ ↔ _ ∧ upd s.left i _ j ≠ 0
    unfold upd
    have hm := hL.mem_iff (a := j)
    rw [List.mem_cons, h.mem] at hm
    by_cases e : j = i
    · subst e; simp [hl, hnl.1]
    · simp [e] at hm ⊢
      exact hm
  · show upd s.left i _ j ≠ 0
    unfold upd
    by_cases e : j = i
    · subst e; exact (cut_apart hnd p hc.1 hj).elim
    · simp [e]; exact h.rest j hj
theorem Split.done (h : Split l n s d d.length []) (hP : d.Perm (nums n)) (hs : d.Pairwise fun x y => (jat l x).rel ≤ (jat l y).rel) : Done l n s :=
  ⟨h.noOn hP hs (.inl rfl), h.noNext hP⟩
/-! How late at most. -/
theorem DoneM.idle {q m t : Int} (h : DoneM l n s q m) : DoneM l n { s with now := t } q m := h
theorem DoneM.go {q m i t : Int} (h : DoneM l n s q m) (hi : s.left i ≠ 0) (hl : s.left i - (t - s.now) ≠ 0) : DoneM l n (run s i t) q m := by
  rcases h with ⟨a, b, c⟩ | ⟨a, ⟨j, b, c, e⟩, f⟩
  · refine .inl ⟨a, b, fun j j0 j1 => ?_⟩
    show upd s.left i _ j ≠ 0
    unfold upd
    split
    · exact hl
    · exact c j j0 j1
  · refine .inr ⟨a, ⟨j, b, ?_, ?_⟩, fun k hk => ?_⟩
    · show upd s.left i _ j = 0
      unfold upd
      rw [if_neg (fun e : (j : Int) = i => hi (e ▸ c)), c]
    · show m = upd s.fin i _ j - _
      unfold upd
      rw [if_neg (fun e : (j : Int) = i => hi (e ▸ c)), e]
    · show upd s.left i _ k = 0 → upd s.fin i _ k - _ ≤ m
      unfold upd
      by_cases e : (k : Int) = i
      · simp only [if_pos e]; exact fun g => absurd g hl
      · simp only [if_neg e]; exact f k hk
theorem DoneM.fin {q m t : Int} {i : Nat} (hin : i < n) (h : DoneM l n s q m) (hi : s.left i ≠ 0) (hl : s.left i - (t - s.now) = 0) : DoneM l n (run s i t) (q + 1) (if q = 0 ∨ t - (jat l i).due > m then t - (jat l i).due else m) := by
  have hself : (run s i t).left (i : Int) = 0 := by show upd s.left i _ i = 0; unfold upd; rw [if_pos rfl]; exact hl
  have hfin : (run s i t).fin (i : Int) = t := by show upd s.fin i _ i = t; unfold upd; rw [if_pos rfl]
  have hoth : ∀ j : Int, j ≠ i → (run s i t).left j = s.left j ∧ (run s i t).fin j = s.fin j := fun j hj => by
    constructor
    · show upd s.left i _ j = _; unfold upd; rw [if_neg hj]
    · show upd s.fin i _ j = _; unfold upd; rw [if_neg hj]
  right
  rcases h with ⟨a, b, c⟩ | ⟨a, ⟨j, b, c, e⟩, f⟩
  · refine ⟨by omega, ⟨i, hin, hself, by rw [if_pos (.inl a), hfin]⟩, fun k hk hz => ?_⟩
    by_cases e : (k : Int) = i
    · rw [if_pos (.inl a), e, hfin]; exact Int.le_refl _
    · rw [(hoth k e).1] at hz
      exact absurd hz (c k (by omega) (by omega))
  · have hji : (j : Int) ≠ i := fun e => hi (e ▸ c)
    refine ⟨by omega, ?_, fun k hk hz => ?_⟩
    · by_cases g : t - (jat l i).due > m
      · exact ⟨i, hin, hself, by rw [if_pos (.inr g), hfin]⟩
      · exact ⟨j, b, by rw [(hoth j hji).1]; exact c, by rw [if_neg (by omega), (hoth j hji).2]; exact e⟩
    · by_cases g : (k : Int) = i
      · rw [g, hfin]; split <;> omega
      · rw [(hoth k g).1] at hz
        have := f k hk hz
        rw [(hoth k g).2]
        split <;> omega
theorem DoneM.late {q m : Int} (h : DoneM l n s q m) (hd : Done l n s) : LateM l n s.fin m := by
  have h0 : ∀ i : Nat, i < n → s.left i = 0 := fun i hi => by
    by_cases e : s.left i = 0
    · exact e
    · by_cases g : (jat l i).rel ≤ s.now
      · exact (hd.1 i ⟨by omega, by omega, e, g⟩).elim
      · exact (hd.2 i ⟨by omega, by omega, e, by omega⟩).elim
  rcases h with ⟨a, b, c⟩ | ⟨a, ⟨j, b, c, e⟩, f⟩
  · refine .inl ⟨?_, b⟩
    rcases Nat.eq_zero_or_pos n with g | g
    · exact g
    · exact absurd (h0 0 g) (c 0 (by omega) (by omega))
  · exact .inr ⟨⟨j, b, e⟩, fun i hi => f i hi (h0 i hi)⟩
theorem DoneM.start (hw : ∀ i : Int, 0 ≤ i → i < n → (jat l i).work ≠ 0) : DoneM l n (start l) 0 0 := .inl ⟨rfl, rfl, hw⟩
end
/-! How many slices there are at most. -/
def cnt (P : Int → Prop) [DecidablePred P] (n : Nat) : Int := sumTo (fun i => if P i then 1 else 0) n
theorem cnt_le {P : Int → Prop} [DecidablePred P] : ∀ n, cnt P n ≤ n
  | 0 => by simp [cnt, sumTo]
  | n + 1 => by
    have := cnt_le (P := P) n
    unfold cnt at *
    simp only [sumTo]
    split <;> omega
theorem cnt_mono {P Q : Int → Prop} [DecidablePred P] [DecidablePred Q] {n : Nat} (h : ∀ i : Int, 0 ≤ i → i < n → P i → Q i) : cnt P n ≤ cnt Q n := by
  refine sumTo_le fun i hi => ?_
  by_cases e : P (i : Int)
  · rw [if_pos e, if_pos (h i (by omega) (by omega) e)]; exact Int.le_refl _
  · rw [if_neg e]; split <;> omega
theorem cnt_lt {P Q : Int → Prop} [DecidablePred P] [DecidablePred Q] : ∀ {n : Nat}, (∀ i : Int, 0 ≤ i → i < n → P i → Q i) → ∀ i : Int, 0 ≤ i → i < n → ¬ P i → Q i → cnt P n < cnt Q n
  | 0, _, i, h0, h1, _, _ => by omega
  | n + 1, h, i, h0, h1, hp, hq => by
    have hm := cnt_mono (P := P) (Q := Q) (n := n) fun j a b => h j a (by omega)
    by_cases e : i = (n : Int)
    · subst e
      unfold cnt at *
      simp only [sumTo]
      rw [if_neg hp, if_pos hq]
      omega
    · have ih := cnt_lt (P := P) (Q := Q) (n := n) (fun j a b => h j a (by omega)) i h0 (by omega) hp hq
      have hn := h (n : Int) (by omega) (by omega)
      unfold cnt at *
      simp only [sumTo]
      by_cases g : P (n : Int)
      · rw [if_pos g, if_pos (hn g)]; omega
      · rw [if_neg g]; split <;> omega
theorem addSl_len (o : List Sl) (i a b : Int) : (addSl o i a b).length ≤ o.length + 1 := by
  unfold addSl
  split
  · simp
  · split <;> simp
/-- As many as there are jobs done and jobs that came, at most. -/
def Short (l : List Jb) (n : Nat) (s : St) : Prop := (s.out.length : Int) ≤ cnt (fun i => s.left i = 0) n + cnt (fun i => (jat l i).rel ≤ s.now) n
theorem Short.step {l : List Jb} {n : Nat} {s s' : St} (h : Short l n s) (hS : Sound l n s) (hs : Step l n s s') : Short l n s' := by
  unfold Short at *
  cases hs with
  | idle x y =>
    rename_i t
    obtain ⟨j, hj, e⟩ := y.1
    have := hj.2.2.2
    have h1 := cnt_mono (P := fun i => (jat l i).rel ≤ s.now) (Q := fun i => (jat l i).rel ≤ t) (n := n) fun i _ _ h => by omega
    show (s.out.length : Int) ≤ cnt (fun i => s.left i = 0) n + cnt (fun i => (jat l i).rel ≤ t) n
    omega
  | run x y =>
    rename_i i t
    have hlen := addSl_len s.out i s.now t
    show ((addSl s.out i s.now t).length : Int) ≤ cnt (fun z => upd s.left i (s.left i - (t - s.now)) z = 0) n + cnt (fun z => (jat l z).rel ≤ t) n
    have hi := x.1
    have hmono : ∀ z : Int, s.left z = 0 → upd s.left i (s.left i - (t - s.now)) z = 0 := fun z hz => by
      unfold upd
      rw [if_neg (fun e : z = i => hi.2.2.1 (e ▸ hz))]
      exact hz
    have hp := Till.pos hS x y
    have hm := cnt_mono (P := fun z => (jat l z).rel ≤ s.now) (Q := fun z => (jat l z).rel ≤ t) (n := n) fun z _ _ hz => by omega
    have hm2 := cnt_mono (P := fun z => s.left z = 0) (Q := fun z => upd s.left i (s.left i - (t - s.now)) z = 0) (n := n) fun z _ _ hz => hmono z hz
    by_cases hl : s.left i - (t - s.now) = 0
    · have h1 := cnt_lt (P := fun z => s.left z = 0) (Q := fun z => upd s.left i (s.left i - (t - s.now)) z = 0) (n := n) (fun z _ _ hz => hmono z hz) i hi.1 hi.2.1 hi.2.2.1 (by unfold upd; rw [if_pos rfl]; exact hl)
      omega
    · rcases y with ⟨a, e⟩ | ⟨u, hu, e⟩
      · omega
      · obtain ⟨j, hj, e2⟩ := hu.1
        have hj2 := hj.2.2.2
        have h1 := cnt_lt (P := fun z => (jat l z).rel ≤ s.now) (Q := fun z => (jat l z).rel ≤ t) (n := n) (fun z _ _ hz => by omega) j hj.1 hj.2.1 (by omega) (by omega)
        omega
theorem Short.reach {l : List Jb} {n : Nat} {s0 s : St} (hrel : ∀ i, (jat l i).rel ≤ 640000) (h0 : Sound l n s0) (h : Short l n s0) (hr : Reach l n s0 s) : Short l n s := by
  induction hr with
  | refl => exact h
  | next hr hs ih => exact ih.step (h0.reach hrel hr) hs
theorem Short.le {l : List Jb} {n : Nat} {s : St} (h : Short l n s) : s.out.length ≤ 2 * n := by
  unfold Short at h
  have h1 := cnt_le (P := fun i => s.left i = 0) n
  have h2 := cnt_le (P := fun i => (jat l i).rel ≤ s.now) n
  omega
theorem cnt_nonneg {P : Int → Prop} [DecidablePred P] : ∀ n, 0 ≤ cnt P n
  | 0 => by simp [cnt, sumTo]
  | n + 1 => by
    have := cnt_nonneg (P := P) n
    unfold cnt at *
    simp only [sumTo]
    split <;> omega
theorem Short.start (l : List Jb) (n : Nat) : Short l n (start l) := by
  unfold Short
  have h1 := cnt_nonneg (P := fun i => (Ytnfcigbiebbjdaa.start l).left i = 0) n
  have h2 := cnt_nonneg (P := fun i => (jat l i).rel ≤ (Ytnfcigbiebbjdaa.start l).now) n
  show ((0 : Nat) : Int) ≤ _
  omega
end Go.Proofs.Ytnfcigbiebbjdaa
