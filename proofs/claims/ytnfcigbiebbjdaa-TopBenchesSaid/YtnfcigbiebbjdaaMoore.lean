/-
  The plain mathematics of jobs on time: taken by rising due, the longest one let go where one is late, the most jobs are on time. No program in sight.
  No conditions.
-/
import Derived.Test.YtnfcigbiebbjdaaDues
namespace Go.Proofs.Ytnfcigbiebbjdaa

theorem works_filter_le {l : List Jb} (hf : Fair l) (p : Int → Bool) (T : List Int) : works l (T.filter p) ≤ works l T := by
  induction T with
  | nil => simp [works]
  | cons x r ih =>
    have := (hf x).1
    rw [List.filter_cons]
    split
    · simp only [works]; omega
    · simp only [works]; omega
theorem exists_most (f : Int → Int) : ∀ T : List Int, T ≠ [] → ∃ m ∈ T, ∀ z ∈ T, f z ≤ f m
  | [], h => absurd rfl h
  | [x], _ => ⟨x, by simp, fun z hz => by obtain rfl : z = x := by simpa using hz
                                          exact Int.le_refl _⟩
  | x :: y :: r, _ => by
    obtain ⟨m, hm, h⟩ := exists_most f (y :: r) (by simp)
    by_cases e : f x ≤ f m
    · exact ⟨m, by simp [hm], fun z hz => by
        rcases List.mem_cons.1 hz with rfl | hz
        · exact e
        · exact h z hz⟩
    · exact ⟨x, by simp, fun z hz => by
        rcases List.mem_cons.1 hz with rfl | hz
        · exact Int.le_refl _
        · have := h z hz; omega⟩
theorem able_total {l : List Jb} {T : List Int} {D : Int} (h : AbleT l 0 T) (hn : T ≠ []) (hd : ∀ z ∈ T, (jat l z).due ≤ D) : works l T ≤ D := by
  obtain ⟨m, hm, hmx⟩ := exists_most (fun z => (jat l z).due) T hn
  have h1 := h m hm
  rw [List.filter_eq_self.2 fun z hz => by simpa using hmx z hz] at h1
  have := hd m hm
  omega
theorem able_erase {l : List Jb} (hf : Fair l) {T : List Int} {x : Int} (h : AbleT l 0 (x :: T)) : AbleT l 0 T := fun i hi => by
  have h1 := h i (by simp [hi])
  rw [List.filter_cons] at h1
  have := (hf x).1
  split at h1
  · simp only [works] at h1; omega
  · exact h1
theorem perm_erase {T : List Int} {x : Int} (h : x ∈ T) : T.Perm (x :: T.erase x) := List.perm_cons_erase h

/-- Of what has come, P, the jobs S are kept. -/
structure Moo (l : List Jb) (P S : List Int) : Prop where
  nodup : S.Nodup
  sub : ∀ z ∈ S, z ∈ P
  able : AbleT l 0 S
  most : ∀ T : List Int, T.Nodup → (∀ z ∈ T, z ∈ P) → AbleT l 0 T → ∃ U : List Int, U.Nodup ∧ (∀ z ∈ U, z ∈ S) ∧ U.length = T.length ∧ works l U ≤ works l T
theorem Moo.nil (l : List Jb) : Moo l [] [] :=
  ⟨List.nodup_nil, fun _ h => h, fun i hi => by simp at hi, fun T _ hs _ => by
    obtain rfl : T = [] := List.eq_nil_iff_forall_not_mem.2 fun z hz => by simpa using hs z hz
    exact ⟨[], List.nodup_nil, fun _ h => h, rfl, Int.le_refl _⟩⟩
theorem Moo.perm {l : List Jb} {P S S' : List Int} (h : Moo l P S) (hp : S'.Perm S) : Moo l P S' :=
  ⟨hp.nodup_iff.2 h.nodup, fun z hz => h.sub z (hp.mem_iff.1 hz), (able_perm hp).2 h.able, fun T a b c => by
    obtain ⟨U, u1, u2, u3, u4⟩ := h.most T a b c
    exact ⟨U, u1, fun z hz => hp.mem_iff.2 (u2 z hz), u3, u4⟩⟩
theorem Moo.grow {l : List Jb} (hf : Fair l) {P S : List Int} {x : Int} (h : Moo l P S) (hx : x ∉ P) {T : List Int} (hT : T.Nodup) (hs : ∀ z ∈ T, z ∈ x :: P) (hA : AbleT l 0 T) :
    ∃ U : List Int, U.Nodup ∧ (∀ z ∈ U, z ∈ x :: S) ∧ U.length = T.length ∧ works l U ≤ works l T := by
  by_cases hxT : x ∈ T
  · have hp := perm_erase hxT
    have hn := hp.nodup_iff.1 hT
    obtain ⟨U, u1, u2, u3, u4⟩ := h.most (T.erase x) (List.nodup_cons.1 hn).2 (fun z hz => by
      have h1 := hs z (hp.mem_iff.2 (by simp [hz]))
      rcases List.mem_cons.1 h1 with rfl | h1
      · exact absurd hz (List.nodup_cons.1 hn).1
      · exact h1) (able_erase hf ((able_perm hp).1 hA))
    refine ⟨x :: U, List.nodup_cons.2 ⟨fun hu => hx (h.sub x (u2 x hu)), u1⟩, fun z hz => ?_, ?_, ?_⟩
    · rcases List.mem_cons.1 hz with rfl | hz
      · simp
      · exact List.mem_cons_of_mem _ (u2 z hz)
    · rw [hp.length_eq, List.length_cons, List.length_cons, u3]
    · rw [works_perm l hp]
      simp only [works]
      omega
  · obtain ⟨U, u1, u2, u3, u4⟩ := h.most T hT (fun z hz => by
      rcases List.mem_cons.1 (hs z hz) with rfl | h1
      · exact absurd hz hxT
      · exact h1) hA
    exact ⟨U, u1, fun z hz => List.mem_cons_of_mem _ (u2 z hz), u3, u4⟩
theorem Moo.take {l : List Jb} (hf : Fair l) {P S : List Int} {x : Int} (h : Moo l P S) (hx : x ∉ P) (hd : ∀ z ∈ P, (jat l z).due ≤ (jat l x).due) (hw : works l S + (jat l x).work ≤ (jat l x).due) : Moo l (x :: P) (x :: S) := by
  refine ⟨List.nodup_cons.2 ⟨fun hs => hx (h.sub x hs), h.nodup⟩, fun z hz => ?_, fun i hi => ?_, fun T a b c => h.grow hf hx a b c⟩
  · rcases List.mem_cons.1 hz with rfl | hz
    · simp
    · exact List.mem_cons_of_mem _ (h.sub z hz)
  · have hall := works_filter_le hf (fun k => decide ((jat l k).due ≤ (jat l i).due)) (x :: S)
    rcases List.mem_cons.1 hi with rfl | hi
    · simp only [works] at hall
      omega
    · have hdi := hd i (h.sub i hi)
      by_cases e : (jat l x).due ≤ (jat l i).due
      · have e2 : (jat l i).due = (jat l x).due := by omega
        simp only [works] at hall
        omega
      · rw [List.filter_cons_of_neg (by simpa using e)]
        exact h.able i hi
theorem Moo.drop {l : List Jb} (hf : Fair l) {P S S' : List Int} {x y : Int} (h : Moo l P S) (hx : x ∉ P) (hd : ∀ z ∈ P, (jat l z).due ≤ (jat l x).due) (hw : ¬ works l S + (jat l x).work ≤ (jat l x).due)
    (hp : (y :: S').Perm (x :: S)) (hy : ∀ z ∈ x :: S, (jat l z).work ≤ (jat l y).work) : Moo l (x :: P) S' := by
  have hxS : x ∉ S := fun hs => hx (h.sub x hs)
  have hnd : (y :: S').Nodup := hp.nodup_iff.2 (List.nodup_cons.2 ⟨hxS, h.nodup⟩)
  have hlen : S'.length = S.length := by have := hp.length_eq; simpa using this
  have hmem : ∀ z, z ∈ S' → z ∈ x :: S := fun z hz => hp.mem_iff.1 (List.mem_cons_of_mem _ hz)
  have hwk : (jat l y).work + works l S' = (jat l x).work + works l S := by have := works_perm l hp; simpa only [works] using this
  refine ⟨(List.nodup_cons.1 hnd).2, fun z hz => ?_, ?_, fun T a b c => ?_⟩
  · rcases List.mem_cons.1 (hmem z hz) with rfl | h1
    · simp
    · exact List.mem_cons_of_mem _ (h.sub z h1)
  · by_cases hyx : y = x
    · subst hyx
      exact (able_perm (List.Perm.cons_inv hp)).2 h.able
    · have hyS : y ∈ S := by
        rcases List.mem_cons.1 (hp.mem_iff.1 (List.mem_cons_self (a := y) (l := S'))) with e | e
        · exact absurd e hyx
        · exact e
      have htot := able_total h.able (fun e => by rw [e] at hyS; simp at hyS) (fun z hz => hd z (h.sub z hz))
      have hxy := hy x (by simp)
      intro i hi
      have hdi : (jat l i).due ≤ (jat l x).due := by
        rcases List.mem_cons.1 (hmem i hi) with rfl | h1
        · exact Int.le_refl _
        · exact hd i (h.sub i h1)
      by_cases e : (jat l x).due ≤ (jat l i).due
      · have hall := works_filter_le hf (fun k => decide ((jat l k).due ≤ (jat l i).due)) S'
        omega
      · have hiS : i ∈ S := by
          rcases List.mem_cons.1 (hmem i hi) with rfl | h1
          · exact absurd (Int.le_refl _) e
          · exact h1
        have h1 := h.able i hiS
        have h2 := works_perm l (hp.filter fun k => decide ((jat l k).due ≤ (jat l i).due))
        rw [List.filter_cons_of_neg (a := x) (by simpa using e)] at h2
        rw [List.filter_cons] at h2
        have := (hf y).1
        split at h2
        · simp only [works] at h2; omega
        · omega
  · obtain ⟨U, u1, u2, u3, u4⟩ := h.grow hf hx a b c
    have hUl : U.length ≤ S.length := by
      rcases Nat.lt_or_ge S.length U.length with hlt | hge
      · exfalso
        have hsub : U.length ≤ (x :: S).length := length_le_of_sub u1 u2
        rw [List.length_cons] at hsub
        have hback : ∀ z ∈ x :: S, z ∈ U := fun z hz => by
          by_cases hzU : z ∈ U
          · exact hzU
          · have : (z :: U).length ≤ (x :: S).length := length_le_of_sub (List.nodup_cons.2 ⟨hzU, u1⟩) fun q hq => by
              rcases List.mem_cons.1 hq with rfl | hq
              · exact hz
              · exact u2 q hq
            simp at this
            omega
        have hperm : U.Perm (x :: S) := (List.perm_ext_iff_of_nodup u1 (List.nodup_cons.2 ⟨hxS, h.nodup⟩)).2 fun z => ⟨u2 z, hback z⟩
        have hUw := works_perm l hperm
        simp only [works] at hUw
        have hTn : T ≠ [] := fun e => by rw [e] at u3; simp at u3; rw [u3] at hlt; simp at hlt
        have := able_total c hTn (D := (jat l x).due) fun z hz => by
          rcases List.mem_cons.1 (b z hz) with rfl | h1
          · exact Int.le_refl _
          · exact hd z h1
        omega
      · exact hge
    by_cases hyU : y ∈ U
    · obtain ⟨z, hz, hzU⟩ : ∃ z ∈ x :: S, z ∉ U := by
        rcases Classical.em (∃ z ∈ x :: S, z ∉ U) with e | e
        · exact e
        · exfalso
          have : (x :: S).length ≤ U.length := length_le_of_sub (List.nodup_cons.2 ⟨hxS, h.nodup⟩) fun q hq => by
            rcases Classical.em (q ∈ U) with e2 | e2
            · exact e2
            · exact absurd ⟨q, hq, e2⟩ e
          simp at this
          omega
      have hpU := perm_erase hyU
      have hnU := hpU.nodup_iff.1 u1
      have hzy : z ≠ y := fun e => hzU (e ▸ hyU)
      have hin : ∀ q, q ∈ x :: S → q ≠ y → q ∈ S' := fun q hq hne => by
        rcases List.mem_cons.1 (hp.mem_iff.2 hq) with e | e
        · exact absurd e hne
        · exact e
      refine ⟨z :: U.erase y, List.nodup_cons.2 ⟨fun hu => hzU (hpU.mem_iff.2 (List.mem_cons_of_mem _ hu)), (List.nodup_cons.1 hnU).2⟩, fun q hq => ?_, ?_, ?_⟩
      · rcases List.mem_cons.1 hq with rfl | hq
        · exact hin q hz hzy
        · refine hin q (u2 q (hpU.mem_iff.2 (List.mem_cons_of_mem _ hq))) fun e => ?_
          subst e
          exact (List.nodup_cons.1 hnU).1 hq
      · have := hpU.length_eq
        simp only [List.length_cons] at this ⊢
        omega
      · have h1 := works_perm l hpU
        have h2 := hy z hz
        simp only [works] at h1 ⊢
        omega
    · refine ⟨U, u1, fun q hq => ?_, u3, u4⟩
      rcases List.mem_cons.1 (hp.mem_iff.2 (u2 q hq)) with e | e
      · subst e; exact absurd hq hyU
      · exact e
/-- **No greater set of jobs is on time.** -/
theorem Moo.best {l : List Jb} {P S : List Int} (h : Moo l P S) {T : List Int} (hT : T.Nodup) (hs : ∀ z ∈ T, z ∈ P) (hA : AbleT l 0 T) : T.length ≤ S.length := by
  obtain ⟨U, u1, u2, u3, _⟩ := h.most T hT hs hA
  have := length_le_of_sub u1 u2
  omega
end Go.Proofs.Ytnfcigbiebbjdaa
