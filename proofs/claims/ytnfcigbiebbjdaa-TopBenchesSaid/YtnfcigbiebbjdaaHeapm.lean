/-
  The plain mathematics of a heap in a list. No program in sight.
  No conditions.
-/
import Derived.Test.YtnfcigbiebbjdaaG9
namespace Go.Proofs.Ytnfcigbiebbjdaa

/-- A strict weak order among some numbers. -/
structure Lt (lt : Int → Int → Bool) : Prop where
  asymm : ∀ x y, lt x y = true → lt y x = false
  neg : ∀ x y z, lt x y = false → lt y z = false → lt x z = false
def at_ (L : List Int) (i : Nat) : Int := L.getD i 0
def swp (L : List Int) (i j : Nat) : List Int := (L.set i (at_ L j)).set j (at_ L i)
theorem at_set {L : List Int} {i : Nat} {x : Int} (h : i < L.length) (k : Nat) : at_ (L.set i x) k = if k = i then x else at_ L k := by
  unfold at_
  rw [List.getD_eq_getElem?_getD, List.getD_eq_getElem?_getD]
  by_cases e : k = i
  · subst e; rw [List.getElem?_set_self h, if_pos rfl]; rfl
  · rw [List.getElem?_set_ne (fun h => e h.symm), if_neg e]
theorem swp_len (L : List Int) (i j : Nat) : (swp L i j).length = L.length := by unfold swp; simp
theorem at_swp {L : List Int} {i j : Nat} (hi : i < L.length) (hj : j < L.length) (k : Nat) : at_ (swp L i j) k = if k = j then at_ L i else if k = i then at_ L j else at_ L k := by
  unfold swp
  rw [at_set (by simpa using hj), at_set hi]
theorem swp_perm {L : List Int} {i j : Nat} (hi : i < L.length) (hj : j < L.length) : (swp L i j).Perm L := getD_set_perm hi hj
/-- No one of the first n is ahead of the one above it. -/
def HeapP (lt : Int → Int → Bool) (L : List Int) (n : Nat) : Prop := ∀ k, 0 < k → k < n → lt (at_ L k) (at_ L ((k - 1) / 2)) = false
/-- So but for j, whose children are not ahead of the one above j. -/
def UpP (lt : Int → Int → Bool) (L : List Int) (j : Nat) : Prop :=
  (∀ k, 0 < k → k < L.length → k ≠ j → lt (at_ L k) (at_ L ((k - 1) / 2)) = false) ∧ (0 < j → ∀ c, 0 < c → c < L.length → (c - 1) / 2 = j → lt (at_ L c) (at_ L ((j - 1) / 2)) = false)
def DownP (lt : Int → Int → Bool) (L : List Int) (n i : Nat) : Prop :=
  (∀ k, 0 < k → k < n → (k - 1) / 2 ≠ i → lt (at_ L k) (at_ L ((k - 1) / 2)) = false) ∧ (0 < i → ∀ c, 0 < c → c < n → (c - 1) / 2 = i → lt (at_ L c) (at_ L ((i - 1) / 2)) = false)
section
variable {lt : Int → Int → Bool} (T : Lt lt)
include T
theorem Lt.irrefl (x : Int) : lt x x = false := by
  cases h : lt x x with
  | false => rfl
  | true => have := T.asymm x x h; rw [h] at this; cases this
theorem Lt.keep {x y z : Int} (h1 : lt x y = false) (h2 : lt z y = true) : lt x z = false := by
  cases h : lt x z with
  | false => rfl
  | true =>
    have := T.neg z x y (T.asymm x z h) h1
    rw [h2] at this
    cases this
theorem UpP.step {L : List Int} {j : Nat} (h : UpP lt L j) (h0 : 0 < j) (hj : j < L.length) (hl : lt (at_ L j) (at_ L ((j - 1) / 2)) = true) : UpP lt (swp L ((j - 1) / 2) j) ((j - 1) / 2) := by
  obtain ⟨p, hp⟩ : ∃ p, p = (j - 1) / 2 := ⟨_, rfl⟩
  rw [← hp] at hl ⊢
  have hpj : p < j := by omega
  have hpl : p < L.length := by omega
  refine ⟨fun k k0 k1 kp => ?_, fun p0 c c0 c1 cp => ?_⟩
  · rw [swp_len] at k1
    rw [at_swp hpl hj, at_swp hpl hj]
    by_cases e : k = j
    · subst e
      rw [if_pos rfl, if_neg (by omega), if_pos hp.symm]
      exact T.asymm _ _ hl
    · rw [if_neg e, if_neg kp]
      by_cases e2 : (k - 1) / 2 = j
      · rw [if_pos e2, hp]
        exact h.2 h0 k k0 k1 e2
      · rw [if_neg e2]
        have h1 := h.1 k k0 k1 e
        by_cases e3 : (k - 1) / 2 = p
        · rw [if_pos e3]
          rw [e3] at h1
          exact T.keep h1 hl
        · rw [if_neg e3]
          exact h1
  · rw [swp_len] at c1
    have hpp : (p - 1) / 2 < p := by omega
    rw [at_swp hpl hj, at_swp hpl hj, if_neg (show (p - 1) / 2 ≠ j by omega), if_neg (show (p - 1) / 2 ≠ p by omega)]
    have h1 := h.1 p p0 hpl (by omega)
    by_cases e : c = j
    · subst e
      rw [if_pos rfl]
      exact h1
    · rw [if_neg e, if_neg (by omega)]
      have h2 := h.1 c c0 c1 e
      rw [cp] at h2
      exact T.neg _ _ _ h2 h1
theorem DownP.step {L : List Int} {n i j : Nat} (h : DownP lt L n i) (hn : n ≤ L.length) (hj0 : 0 < j) (hj : j < n) (hji : (j - 1) / 2 = i) (hmin : ∀ c, 0 < c → c < n → (c - 1) / 2 = i → lt (at_ L c) (at_ L j) = false)
    (hl : lt (at_ L j) (at_ L i) = true) : DownP lt (swp L i j) n j := by
  have hij : i < j := by omega
  have hil : i < L.length := by omega
  have hjl : j < L.length := by omega
  refine ⟨fun k k0 k1 kp => ?_, fun _ c c0 c1 cp => ?_⟩
  · rw [at_swp hil hjl, at_swp hil hjl]
    by_cases e : k = j
    · subst e
      rw [if_pos rfl, if_neg (by omega), if_pos hji]
      exact T.asymm _ _ hl
    · rw [if_neg e, if_neg kp]
      by_cases e2 : (k - 1) / 2 = i
      · rw [if_pos e2, if_neg (by omega)]
        exact hmin k k0 k1 e2
      · rw [if_neg e2]
        by_cases e3 : k = i
        · subst e3
          rw [if_pos rfl]
          exact h.2 k0 j hj0 hj hji
        · rw [if_neg e3]
          exact h.1 k k0 k1 e2
  · rw [at_swp hil hjl, at_swp hil hjl, hji, if_neg (show i ≠ j by omega), if_pos rfl, if_neg (by omega), if_neg (by omega)]
    have := h.1 c c0 c1 (by omega)
    rwa [cp] at this
/-- The one on top is the first. -/
theorem HeapP.top {L : List Int} {n : Nat} (h : HeapP lt L n) : ∀ k, k < n → lt (at_ L k) (at_ L 0) = false
  | 0, _ => T.irrefl _
  | k + 1, hk => T.neg _ _ _ (h (k + 1) (by omega) hk) (HeapP.top h ((k + 1 - 1) / 2) (by omega))
end
theorem UpP.done {lt : Int → Int → Bool} {L : List Int} {j : Nat} (h : UpP lt L j) (hj : j = 0 ∨ lt (at_ L j) (at_ L ((j - 1) / 2)) = false) : HeapP lt L L.length := fun k h0 h1 => by
  by_cases e : k = j
  · subst e
    rcases hj with hj | hj
    · omega
    · exact hj
  · exact h.1 k h0 h1 e
theorem DownP.done {lt : Int → Int → Bool} {L : List Int} {n i : Nat} (h : DownP lt L n i) (hd : ∀ c, 0 < c → c < n → (c - 1) / 2 = i → lt (at_ L c) (at_ L i) = false) : HeapP lt L n := fun k k0 k1 => by
  by_cases e : (k - 1) / 2 = i
  · rw [e]; exact hd k k0 k1 e
  · exact h.1 k k0 k1 e
theorem HeapP.push {lt : Int → Int → Bool} {L : List Int} {x : Int} (h : HeapP lt L L.length) : UpP lt (L ++ [x]) L.length := by
  have ha : ∀ k, k < L.length → at_ (L ++ [x]) k = at_ L k := fun k hk => by
    unfold at_
    rw [List.getD_eq_getElem?_getD, List.getD_eq_getElem?_getD, List.getElem?_append_left hk]
  refine ⟨fun k k0 k1 kj => ?_, fun _ c c0 c1 cp => ?_⟩
  · rw [List.length_append, List.length_singleton] at k1
    rw [ha k (by omega), ha _ (by omega)]
    exact h k k0 (by omega)
  · rw [List.length_append, List.length_singleton] at c1
    omega
/-- The top and the last one exchanged, the others are a heap but for the top. -/
theorem HeapP.pop {lt : Int → Int → Bool} {L : List Int} {n : Nat} (h : HeapP lt L L.length) (hn : L.length = n + 1) : DownP lt (swp L 0 n) n 0 := by
  refine ⟨fun k k0 k1 kp => ?_, fun h0 => absurd h0 (by omega)⟩
  rw [at_swp (by omega) (by omega), at_swp (by omega) (by omega), if_neg (by omega), if_neg (by omega), if_neg (by omega), if_neg kp]
  exact h k k0 (by omega)
theorem HeapP.take {lt : Int → Int → Bool} {L : List Int} {n : Nat} (h : HeapP lt L n) (hn : n ≤ L.length) : HeapP lt (L.take n) (L.take n).length := fun k k0 k1 => by
  rw [List.length_take] at k1
  have ha : ∀ q, q < n → at_ (L.take n) q = at_ L q := fun q hq => by
    unfold at_
    rw [List.getD_eq_getElem?_getD, List.getD_eq_getElem?_getD, List.getElem?_take_of_lt hq]
  rw [ha k (by omega), ha _ (by omega)]
  exact h k k0 (by omega)
theorem HeapP.nil (lt : Int → Int → Bool) : HeapP lt [] 0 := fun k _ h => by omega
end Go.Proofs.Ytnfcigbiebbjdaa
