/-
  The plain mathematics of two benches: Johnson's order is done the earliest; turned round, with the benches exchanged, an order takes as long. No program in sight.
  No conditions.
-/
import Derived.Test.YtnfcigbiebbjdaaOrds
namespace Go.Proofs.Ytnfcigbiebbjdaa
def iat (l : List Int) (i : Int) : Int := l.getD i.toNat 0
section
variable (a b : List Int)
/-- When the last one is done on the second bench, the first bench being free from t on, the second from u on. -/
def lenF (t u : Int) : List Int → Int
  | [] => u
  | i :: r => lenF (t + iat a i) (max (t + iat a i) u + iat b i) r
theorem lenF_mono : ∀ (o : List Int) (t u v : Int), u ≤ v → lenF a b t u o ≤ lenF a b t v o
  | [], _, _, _, h => h
  | i :: r, t, u, v, h => lenF_mono r _ _ _ (by omega)
theorem lenF_append : ∀ (o p : List Int) (t u : Int), ∃ t', lenF a b t u (o ++ p) = lenF a b t' (lenF a b t u o) p ∧ ∀ v, lenF a b t v (o ++ p) = lenF a b t' (lenF a b t v o) p
  | [], p, t, u => ⟨t, rfl, fun _ => rfl⟩
  | i :: r, p, t, u => by
    obtain ⟨t', h1, h2⟩ := lenF_append r p (t + iat a i) (max (t + iat a i) u + iat b i)
    exact ⟨t', h1, fun v => h2 _⟩
/-- Is j to be done no later than i? -/
def Before (j i : Int) : Prop := min (iat a j) (iat b i) ≤ min (iat a i) (iat b j)
theorem len_swap (t u j i : Int) (r : List Int) (h : Before a b j i) : lenF a b t u (j :: i :: r) ≤ lenF a b t u (i :: j :: r) := by
  unfold Before at h
  simp only [lenF]
  rw [show t + iat a j + iat a i = t + iat a i + iat a j by omega]
  exact lenF_mono a b r _ _ _ (by omega)
theorem len_front : ∀ (X Y : List Int) (t u j : Int), (∀ i ∈ X, Before a b j i) → lenF a b t u (j :: (X ++ Y)) ≤ lenF a b t u (X ++ j :: Y)
  | [], _, _, _, _, _ => Int.le_refl _
  | i :: X, Y, t, u, j, h => by
    have ih := len_front X Y (t + iat a i) (max (t + iat a i) u + iat b i) j fun x hx => h x (by simp [hx])
    exact Int.le_trans (len_swap a b t u j i (X ++ Y) (h i (by simp))) ih
/-- **Johnson's order is done the earliest.** -/
theorem johnson_least : ∀ (o m : List Int) (t u : Int), o.Pairwise (Before a b) → m.Perm o → lenF a b t u o ≤ lenF a b t u m
  | [], m, t, u, _, hp => by
    have := hp.length_eq
    obtain rfl : m = [] := List.eq_nil_of_length_eq_zero (by simpa using this)
    exact Int.le_refl _
  | j :: o, m, t, u, h, hp => by
    have hb : j ∈ m := hp.mem_iff.2 (by simp)
    obtain ⟨X, Y, rfl⟩ := List.append_of_mem hb
    have hXY : (X ++ Y).Perm o := List.Perm.cons_inv ((List.perm_middle (a := j) (l₁ := X) (l₂ := Y)).symm.trans hp)
    have h1 := len_front a b X Y t u j fun s hs => (List.pairwise_cons.1 h).1 s (hXY.mem_iff.1 (by simp [hs]))
    have h2 := johnson_least o (X ++ Y) (t + iat a j) (max (t + iat a j) u + iat b j) (List.pairwise_cons.1 h).2 hXY
    simp only [lenF] at h1 ⊢
    omega
/-- Johnson's rule: the early ones by rising first time, then the others by falling second time. -/
def johnB (j i : Int) : Prop :=
  if iat a j < iat b j then (iat a i < iat b i → iat a j ≤ iat a i) else ¬ iat a i < iat b i ∧ iat b i ≤ iat b j
theorem john_before {j i : Int} (h : johnB a b j i) : Before a b j i := by
  unfold johnB at h
  unfold Before
  split at h
  · by_cases e : iat a i < iat b i
    · have := h e; omega
    · omega
  · omega
/-! Turned round. -/
def sums : List Int → Int
  | [] => 0
  | i :: r => iat b i + sums r
/-- From the front. -/
def front : List Int → Int
  | [] => 0
  | i :: r => max (iat a i + iat b i + sums b r) (iat a i + front r)
theorem front_sums (ha : ∀ i, 0 ≤ iat a i) : ∀ o : List Int, sums b o ≤ front a b o
  | [] => Int.le_refl _
  | i :: r => by have := ha i; simp only [sums, front]; omega
theorem lenF_front (ha : ∀ i, 0 ≤ iat a i) (hb : ∀ i, 0 ≤ iat b i) : ∀ (o : List Int) (t u : Int), lenF a b t u o = if o = [] then u else max (u + sums b o) (t + front a b o)
  | [], t, u => rfl
  | i :: r, t, u => by
    have h1 := ha i
    have h2 := hb i
    rw [if_neg (by simp)]
    simp only [lenF, sums, front]
    rw [lenF_front ha hb r]
    split
    · rename_i e
      subst e
      simp only [sums, front]
      omega
    · have := front_sums a b ha r
      omega
end
theorem sums_append (b : List Int) : ∀ o p : List Int, sums b (o ++ p) = sums b o + sums b p
  | [], p => by simp [sums]
  | i :: r, p => by simp only [List.cons_append, sums, sums_append b r p]; omega
theorem sums_reverse (b : List Int) : ∀ o : List Int, sums b o.reverse = sums b o
  | [] => rfl
  | i :: r => by rw [List.reverse_cons, sums_append, sums_reverse b r]; simp only [sums]; omega
theorem lenF_last (a b : List Int) : ∀ (o : List Int) (t u i : Int), lenF a b t u (o ++ [i]) = max (t + sums a o + iat a i) (lenF a b t u o) + iat b i
  | [], t, u, i => by simp only [List.nil_append, lenF, sums]; omega
  | j :: r, t, u, i => by
    simp only [List.cons_append, lenF, sums]
    rw [lenF_last a b r]
    rw [show t + iat a j + sums a r + iat a i = t + (iat a j + sums a r) + iat a i by omega]
theorem lenF_round (a b : List Int) (ha : ∀ i, 0 ≤ iat a i) (hb : ∀ i, 0 ≤ iat b i) : ∀ o : List Int, lenF a b 0 0 o.reverse = front b a o
  | [] => rfl
  | i :: r => by
    rw [List.reverse_cons, lenF_last, lenF_round a b ha hb r, sums_reverse]
    simp only [front]
    omega
/-- **Turned round, with the benches exchanged, an order takes as long.** -/
theorem len_round (a b : List Int) (ha : ∀ i, 0 ≤ iat a i) (hb : ∀ i, 0 ≤ iat b i) (o : List Int) : lenF a b 0 0 o.reverse = lenF b a 0 0 o := by
  rw [lenF_round a b ha hb, lenF_front b a hb ha]
  have := front_sums b a hb o
  split
  · rename_i e; subst e; rfl
  · omega
end Go.Proofs.Ytnfcigbiebbjdaa
