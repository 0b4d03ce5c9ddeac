/-
  The plain mathematics of a sort by levels: runs of one length are led to runs of a greater length, one after the other. No program in sight.
  No conditions.
-/
import Derived.Test.YtnfcigbiebbjdaaSortm
namespace Go.Proofs.Ytnfcigbiebbjdaa

/-- The first t of L are those of d, in some order. -/
def Prm (d L : List Int) (t : Nat) : Prop := (L.take t).Perm (d.take t)
/-- From t on L rises for m numbers. -/
def Srt (le : Int → Int → Prop) (L : List Int) (t m : Nat) : Prop := ((L.drop t).take m).Pairwise le
/-- The first k runs of M are made, the rest is in runs of m. -/
def Level (le : Int → Int → Prop) (d L : List Int) (m M k : Nat) : Prop :=
  L.length = d.length ∧ (∀ j, j ≤ k → Prm d L (M * j)) ∧ (∀ j, j < k → Srt le L (M * j) M) ∧ ∀ i, M * k ≤ m * i → Prm d L (m * i) ∧ Srt le L (m * i) m

theorem take_hi {X Q : List Int} {t : Nat} (h : X.length ≤ t) : (X ++ Q).take t = X ++ Q.take (t - X.length) := by
  rw [List.take_append, List.take_of_length_le h]
theorem drop_hi {X Q : List Int} {t : Nat} (h : X.length ≤ t) : (X ++ Q).drop t = Q.drop (t - X.length) := by
  rw [List.drop_append, List.drop_of_length_le h, List.nil_append]
theorem take_turn {P S S' Q : List Int} {t : Nat} (hS : S'.Perm S) (ht : t ≤ P.length ∨ P.length + S.length ≤ t) : ((P ++ S' ++ Q).take t).Perm ((P ++ S ++ Q).take t) := by
  have hl := hS.length_eq
  rcases ht with h | h
  · rw [List.append_assoc, List.append_assoc, List.take_append_of_le_length h, List.take_append_of_le_length h]
  · rw [take_hi (X := P ++ S') (by rw [List.length_append]; omega), take_hi (X := P ++ S) (by rw [List.length_append]; omega), List.length_append, List.length_append, hl]
    exact (hS.append_left P).append_right _
theorem drop_turn {P S S' Q : List Int} {t : Nat} (hS : S'.Perm S) (ht : P.length + S.length ≤ t) : (P ++ S' ++ Q).drop t = (P ++ S ++ Q).drop t := by
  have hl := hS.length_eq
  rw [drop_hi (X := P ++ S') (by rw [List.length_append]; omega), drop_hi (X := P ++ S) (by rw [List.length_append]; omega), List.length_append, List.length_append, hl]
theorem seg_turn {P S S' Q : List Int} {t m : Nat} (ht : t + m ≤ P.length) : ((P ++ S' ++ Q).drop t).take m = ((P ++ S ++ Q).drop t).take m := by
  rw [List.append_assoc, List.append_assoc, List.drop_append_of_le_length (by omega), List.drop_append_of_le_length (by omega), List.take_append_of_le_length (by rw [List.length_drop]; omega), List.take_append_of_le_length (by rw [List.length_drop]; omega)]

theorem Level.step {le : Int → Int → Prop} {d P S S' Q : List Int} {m M k c : Nat} (h : Level le d (P ++ S ++ Q) m M k) (hM : M = m * c) (hP : P.length = M * k) (hS : S.length = M ∨ (S.length ≤ M ∧ Q = [])) (hp : S'.Perm S) (hs : S'.Pairwise le) :
    Level le d (P ++ S' ++ Q) m M (k + 1) := by
  obtain ⟨h0, h1, h2, h3⟩ := h
  have hl := hp.length_eq
  have hMk : M * (k + 1) = M * k + M := Nat.mul_succ M k
  have hlen : (P ++ S' ++ Q).length = (P ++ S ++ Q).length := by simp only [List.length_append]; omega
  refine ⟨by omega, fun j hj => ?_, fun j hj => ?_, fun i hi => ?_⟩
  · rcases Nat.lt_or_ge k j with hjk | hjk
    · obtain rfl : j = k + 1 := by omega
      have e : M * (k + 1) = m * (c * (k + 1)) := by rw [hM, Nat.mul_assoc]
      have h4 : Prm d (P ++ S ++ Q) (M * (k + 1)) := by rw [e]; exact (h3 _ (by rw [← e]; omega)).1
      exact (take_turn hp (.inr (by rcases hS with h | h <;> omega))).trans h4
    · have hle : M * j ≤ M * k := Nat.mul_le_mul_left M hjk
      exact (take_turn hp (.inl (by omega))).trans (h1 j hjk)
  · rcases Nat.lt_or_ge j k with hjk | hjk
    · have hle : M * (j + 1) ≤ M * k := Nat.mul_le_mul_left M hjk
      rw [Nat.mul_succ] at hle
      unfold Srt
      rw [seg_turn (S := S) (by omega)]
      exact h2 j hjk
    · obtain rfl : j = k := by omega
      unfold Srt
      rw [← hP, List.append_assoc, List.drop_append_of_le_length (Nat.le_refl _), List.drop_length, List.nil_append]
      rcases hS with h | ⟨h, rfl⟩
      · rw [List.take_append_of_le_length (by omega), List.take_of_length_le (by omega)]
        exact hs
      · rw [List.append_nil, List.take_of_length_le (by omega)]
        exact hs
  · have hge : M * k ≤ m * i := by omega
    obtain ⟨h4, h5⟩ := h3 i hge
    have hend : P.length + S.length ≤ m * i := by rcases hS with h | h <;> omega
    refine ⟨(take_turn hp (.inr hend)).trans h4, ?_⟩
    unfold Srt
    rw [drop_turn hp hend]
    exact h5
/-- All runs are made: they are the runs of the next level. -/
theorem Level.next {le : Int → Int → Prop} {d L : List Int} {m M k : Nat} (M' : Nat) (h : Level le d L m M k) (hk : d.length ≤ M * k) : Level le d L M M' 0 := by
  obtain ⟨h0, h1, h2, _⟩ := h
  have hw : L.Perm d := by
    have := h1 k (Nat.le_refl _)
    unfold Prm at this
    rwa [List.take_of_length_le (by omega), List.take_of_length_le (by omega)] at this
  refine ⟨h0, fun j hj => ?_, fun j hj => by omega, fun i _ => ?_⟩
  · obtain rfl : j = 0 := by omega
    unfold Prm
    simp
  · rcases Nat.lt_or_ge i k with hi | hi
    · exact ⟨h1 i (by omega), h2 i hi⟩
    · have hge : M * k ≤ M * i := Nat.mul_le_mul_left M hi
      constructor
      · unfold Prm
        rw [List.take_of_length_le (by omega), List.take_of_length_le (by omega)]
        exact hw
      · unfold Srt
        rw [List.drop_of_length_le (by omega)]
        simp
theorem Level.first {le : Int → Int → Prop} (d : List Int) (M : Nat) : Level le d d 1 M 0 := by
  refine ⟨rfl, fun j _ => List.Perm.refl _, fun j hj => by omega, fun i _ => ⟨List.Perm.refl _, ?_⟩⟩
  unfold Srt
  cases h : d.drop (1 * i) with
  | nil => simp
  | cons x r => simp
theorem Level.done {le : Int → Int → Prop} {d L : List Int} {m M : Nat} (h : Level le d L m M 0) (hn : d.length ≤ m) : L.Perm d ∧ L.Pairwise le := by
  obtain ⟨h0, _, _, h3⟩ := h
  have a := (h3 0 (by omega)).2
  have b := (h3 1 (by omega)).1
  unfold Srt at a
  unfold Prm at b
  rw [Nat.mul_zero, List.drop_zero, List.take_of_length_le (by omega)] at a
  rw [Nat.mul_one, List.take_of_length_le (by omega), List.take_of_length_le (by omega)] at b
  exact ⟨b, a⟩
theorem Level.perm {le : Int → Int → Prop} {d L : List Int} {m M k c : Nat} (h : Level le d L m M k) (hM : M = m * c) (hm : 0 < m) : L.Perm d := by
  obtain ⟨h0, _, _, h3⟩ := h
  have e : M * k = m * (c * k) := by rw [hM, Nat.mul_assoc]
  have h1 : m * (c * k) ≤ m * (c * k + d.length) := Nat.mul_le_mul_left m (by omega)
  have h2 : m * d.length ≤ m * (c * k + d.length) := Nat.mul_le_mul_left m (by omega)
  have h4 : 1 * d.length ≤ m * d.length := Nat.mul_le_mul_right _ hm
  have h5 := (h3 (c * k + d.length) (by omega)).1
  unfold Prm at h5
  rwa [List.take_of_length_le (by omega), List.take_of_length_le (by omega)] at h5
/-- What comes ahead of a cut and what comes behind it. -/
theorem prm_cross {d L : List Int} {t : Nat} {R : Int → Int → Prop} (hd : d.Pairwise R) (hp : Prm d L t) (hw : L.Perm d) : ∀ x ∈ L.take t, ∀ y ∈ L.drop t, R x y := by
  intro x hx y hy
  have e : d = d.take t ++ d.drop t := (List.take_append_drop t d).symm
  rw [e] at hd
  have h2 : (L.drop t).Perm (d.drop t) := by
    have h3 : (L.take t ++ L.drop t).Perm (d.take t ++ d.drop t) := by rw [List.take_append_drop, List.take_append_drop]; exact hw
    exact (List.perm_append_left_iff (d.take t)).1 ((hp.symm.append_right _).trans h3)
  exact (List.pairwise_append.1 hd).2.2 x (hp.mem_iff.1 hx) y (h2.mem_iff.1 hy)
end Go.Proofs.Ytnfcigbiebbjdaa
