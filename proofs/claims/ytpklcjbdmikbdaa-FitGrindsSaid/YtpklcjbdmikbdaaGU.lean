/-
  The seat's texts Grin Gto GriE GriP GrdW LeaW IdxW GriQ GriW RGro in one: the contracts of the functions that the law reaches, and the plain laws that they rest on.
  Conditions: as each theorem states them.
-/
import Derived.Test.YtpklcjbdmikbdaaGQ
import Derived.Test.YtpklcjbdmikbdaaGT
namespace Go.Proofs.Ytpklcjbdmikbdaa

/-- What a pairing costs. -/
def wt (g : Nat → Nat → Int) (M : List (Nat × Nat)) : Int := (M.map fun e => g e.1 e.2).sum
section
variable {F : Nat → Nat → Prop} {g : Nat → Nat → Int} {A B : Nat → Prop} {M : List (Nat × Nat)}
theorem wt_cons (a : Nat × Nat) : wt g (a :: M) = g a.1 a.2 + wt g M := by simp [wt]
theorem wt_erase {a : Nat × Nat} (h : a ∈ M) : wt g M = g a.1 a.2 + wt g (M.erase a) := by
  induction M with
  | nil => cases h
  | cons b M ih =>
    by_cases e : b = a
    · subst e
      rw [List.erase_cons_head, wt_cons]
    · have h' : a ∈ M := by
        rcases List.mem_cons.1 h with h1 | h1
        · exact absurd h1.symm e
        · exact h1
      rw [List.erase_cons_tail (by simpa using e), wt_cons, wt_cons, ih h']
      omega
theorem wt_le {G : Int} (hg : ∀ x k, g x k ≤ G) : wt g M ≤ M.length * G := by
  induction M with
  | nil => simp [wt]
  | cons a M ih =>
    have := hg a.1 a.2
    rw [wt_cons, List.length_cons]
    have e : ((M.length + 1 : Nat) : Int) * G = M.length * G + G := by rw [Int.natCast_add, Int.add_mul]; simp
    rw [e]
    omega
theorem wt_nonneg (hg : ∀ x k, 0 ≤ g x k) : 0 ≤ wt g M := by
  induction M with
  | nil => simp [wt]
  | cons a M ih =>
    have := hg a.1 a.2
    rw [wt_cons]
    omega
theorem Mat.erase (h : Mat F A B M) (a : Nat × Nat) : Mat F A B (M.erase a) := h.sub List.erase_sublist
theorem Mat.full {L : List Nat} (h : Mat F A B M) (hA : ∀ x, A x → x ∈ L) (hl : M.length = L.length) {x : Nat} (hx : x ∈ L) : ∃ k, (x, k) ∈ M := by
  apply Classical.byContradiction
  intro hn
  have h1 := len_of_sub (b := L.erase x) h.one fun y hy => by
    obtain ⟨e, he, rfl⟩ := List.mem_map.1 hy
    have : e.1 ≠ x := fun e1 => hn ⟨e.2, by rw [← e1]; exact he⟩
    exact (List.mem_erase_of_ne this).2 (hA _ (h.ok e he).1)
  rw [List.length_map, List.length_erase_of_mem hx] at h1
  have : 0 < L.length := List.length_pos_of_mem hx
  omega
/-- The least cost of a pairing of n shafts. -/
def Low (F : Nat → Nat → Prop) (g : Nat → Nat → Int) (A B : Nat → Prop) (n : Nat) (c : Int) : Prop :=
  (∃ M, Mat F A B M ∧ M.length = n ∧ wt g M = c) ∧ ∀ M, Mat F A B M → M.length = n → c ≤ wt g M
/-- The same, 2^40 standing for no pairing at all. -/
def LeaR (F : Nat → Nat → Prop) (g : Nat → Nat → Int) (A B : Nat → Prop) (n : Nat) (v : Int) : Prop :=
  (v < 1099511627776 ∧ Low F g A B n v) ∨ (v = 1099511627776 ∧ ∀ M, Mat F A B M → M.length ≠ n)
theorem Low.uniq {n : Nat} {c d : Int} (h : Low F g A B n c) (k : Low F g A B n d) : c = d := by
  obtain ⟨⟨M, a1, a2, a3⟩, a4⟩ := h
  obtain ⟨⟨N, b1, b2, b3⟩, b4⟩ := k
  have := a4 N b1 b2
  have := b4 M a1 a2
  omega
theorem Low.bound {n : Nat} {c : Int} (h : Low F g A B n c) (hg : ∀ x k, 0 ≤ g x k ∧ g x k ≤ 4000000) : 0 ≤ c ∧ c ≤ n * 4000000 := by
  obtain ⟨⟨M, a1, a2, a3⟩, a4⟩ := h
  have h1 := wt_le (M := M) (fun x k => (hg x k).2)
  have h2 := wt_nonneg (M := M) (fun x k => (hg x k).1)
  rw [a2] at h1
  omega
theorem Low.congr {A' B' : Nat → Prop} {n : Nat} {c : Int} (h : Low F g A B n c) (hA : ∀ x k, (A x ∧ B k ∧ F x k) ↔ (A' x ∧ B' k ∧ F x k)) : Low F g A' B' n c := by
  obtain ⟨⟨M, a1, a2, a3⟩, a4⟩ := h
  exact ⟨⟨M, a1.mono fun e he => (hA _ _).1 (a1.ok e he), a2, a3⟩, fun M' h' => a4 M' (h'.mono fun e he => (hA _ _).2 (h'.ok e he))⟩
theorem LeaR.congr {A' B' : Nat → Prop} {n : Nat} {v : Int} (h : LeaR F g A B n v) (hA : ∀ x k, (A x ∧ B k ∧ F x k) ↔ (A' x ∧ B' k ∧ F x k)) : LeaR F g A' B' n v := by
  rcases h with ⟨h1, h2⟩ | ⟨h1, h2⟩
  · exact .inl ⟨h1, h2.congr hA⟩
  · exact .inr ⟨h1, fun M hM => h2 M (hM.mono fun e he => (hA _ _).2 (hM.ok e he))⟩
theorem LeaR.low {n : Nat} {v : Int} (h : LeaR F g A B n v) (hv : v < 1099511627776) : Low F g A B n v := by
  rcases h with ⟨_, h⟩ | ⟨h, _⟩
  · exact h
  · omega
theorem LeaR.of_low {n : Nat} {v c : Int} (h : LeaR F g A B n v) (k : Low F g A B n c) : v = c := by
  rcases h with ⟨_, h⟩ | ⟨_, h⟩
  · exact h.uniq k
  · obtain ⟨⟨M, a1, a2, _⟩, _⟩ := k
    exact absurd a2 (h M a1)
theorem LeaR.le {n : Nat} {v : Int} (h : LeaR F g A B n v) : v ≤ 1099511627776 := by
  rcases h with ⟨h, _⟩ | ⟨h, _⟩ <;> omega
theorem LeaR.zero : LeaR F g A B 0 0 := .inl ⟨by omega, ⟨[], Mat.nil, rfl, rfl⟩, fun M _ h => by
  have : M = [] := List.eq_nil_of_length_eq_zero h
  subst this
  simp [wt]⟩
theorem LeaR.none {n : Nat} (h : ∀ k, ¬ B k) : LeaR F g A B (n + 1) 1099511627776 := .inr ⟨rfl, fun M hM e => by
  cases M with
  | nil => simp at e
  | cons a M => exact h _ (hM.ok a (by simp)).2.1⟩
/-- A shaft and a hole more, both the greatest. -/
theorem LeaR.step {A' B' : Nat → Prop} {x k n : Nat} {va vb c : Int} {L : List Nat} (hA : ∀ y, A' y ↔ A y ∨ y = x) (hB : ∀ h, B' h ↔ B h ∨ h = k) (hx : ¬ A x) (hk : ¬ B k) (hL : ∀ y, A y ↔ y ∈ L) (hl : L.length = n) (hn : n ≤ 64)
    (hg : ∀ x k, 0 ≤ g x k ∧ g x k ≤ 4000000) (hm : ∀ y h, A y → B h → F y k → F x h → F y h ∧ F x k ∧ g y h + g x k ≤ g y k + g x h)
    (ha : LeaR F g A' B (n + 1) va) (hb : LeaR F g A B n vb) (hc : (F x k ∧ c = g x k) ∨ (¬ F x k ∧ c = 1099511627776)) : LeaR F g A' B' (n + 1) (min va (vb + c)) := by
  have key : ∀ M, Mat F A' B' M → M.length = n + 1 → (∃ M1, Mat F A' B M1 ∧ M1.length = n + 1 ∧ wt g M1 ≤ wt g M) ∨ (F x k ∧ ∃ M2, Mat F A B M2 ∧ M2.length = n ∧ wt g M2 + g x k ≤ wt g M) := by
    intro M hM hlen
    by_cases hu : ∃ y, (y, k) ∈ M
    · obtain ⟨y, hy⟩ := hu
      have oky := hM.ok _ hy
      by_cases hyx : y = x
      · subst hyx
        have hlen2 := List.length_erase_of_mem hy
        refine .inr ⟨oky.2.2, M.erase (y, k), (hM.erase _).mono fun e he => ?_, by omega, by have := wt_erase (g := g) hy; simp only at this; omega⟩
        obtain ⟨e1, e2⟩ := (List.Nodup.mem_erase_iff hM.nodup).1 he
        have ok := hM.ok e e2
        refine ⟨?_, ?_, ok.2.2⟩
        · rcases (hA _).1 ok.1 with h1 | h1
          · exact h1
          · exact absurd (hM.fst_eq e2 hy h1) e1
        · rcases (hB _).1 ok.2.1 with h1 | h1
          · exact h1
          · exact absurd (hM.snd_eq e2 hy h1) e1
      · obtain ⟨h', hx'⟩ := hM.full (L := x :: L) (fun z hz => by
          rcases (hA z).1 hz with h1 | h1
          · exact List.mem_cons_of_mem _ ((hL z).1 h1)
          · rw [h1]; simp) (by rw [List.length_cons]; omega) (x := x) (by simp)
        have okx := hM.ok _ hx'
        have hne : h' ≠ k := fun e => hyx (congrArg Prod.fst (hM.snd_eq hy hx' e.symm))
        have hAy : A y := by
          rcases (hA _).1 oky.1 with h1 | h1
          · exact h1
          · exact absurd h1 hyx
        have hBh : B h' := by
          rcases (hB _).1 okx.2.1 with h1 | h1
          · exact h1
          · exact absurd h1 hne
        obtain ⟨m1, m2, m3⟩ := hm y h' hAy hBh oky.2.2 okx.2.2
        have hM1 := hM.erase (y, k)
        have hx1 : (x, h') ∈ M.erase (y, k) := (List.Nodup.mem_erase_iff hM.nodup).2 ⟨fun e => hyx (congrArg Prod.fst e).symm, hx'⟩
        have w1 := wt_erase (g := g) hy
        have w2 := wt_erase (g := g) hx1
        have l1 := List.length_erase_of_mem hy
        have l2 := List.length_erase_of_mem hx1
        have l3 := List.length_pos_of_mem hx1
        have mem2 : ∀ e ∈ (M.erase (y, k)).erase (x, h'), e ≠ (x, h') ∧ e ≠ (y, k) ∧ e ∈ M := fun e he => by
          obtain ⟨e1, e2⟩ := (List.Nodup.mem_erase_iff hM1.nodup).1 he
          obtain ⟨e3, e4⟩ := (List.Nodup.mem_erase_iff hM.nodup).1 e2
          exact ⟨e1, e3, e4⟩
        refine .inr ⟨m2, (y, h') :: (M.erase (y, k)).erase (x, h'), Mat.cons ((hM1.erase _).mono fun e he => ?_) (fun e he e1 => ?_) (fun e he e1 => ?_) hAy hBh m1, ?_, ?_⟩
        · obtain ⟨e1, e2, e3⟩ := mem2 e he
          have ok := hM.ok e e3
          refine ⟨?_, ?_, ok.2.2⟩
          · rcases (hA _).1 ok.1 with h1 | h1
            · exact h1
            · exact absurd (hM.fst_eq e3 hx' h1) e1
          · rcases (hB _).1 ok.2.1 with h1 | h1
            · exact h1
            · exact absurd (hM.snd_eq e3 hy h1) e2
        · obtain ⟨_, e3, e4⟩ := mem2 e he
          exact e3 (hM.fst_eq e4 hy e1)
        · obtain ⟨e3, _, e4⟩ := mem2 e he
          exact e3 (hM.snd_eq e4 hx' e1)
        · rw [List.length_cons]; omega
        · rw [wt_cons]
          simp only at w1 w2 ⊢
          omega
    · refine .inl ⟨M, hM.mono fun e he => ⟨(hM.ok e he).1, ?_, (hM.ok e he).2.2⟩, hlen, Int.le_refl _⟩
      rcases (hB _).1 (hM.ok e he).2.1 with h1 | h1
      · exact h1
      · exact absurd ⟨e.1, by rw [← h1]; exact he⟩ hu
  have up1 : ∀ M, Mat F A' B M → Mat F A' B' M := fun M h => h.mono fun e he => ⟨(h.ok e he).1, (hB _).2 (.inl (h.ok e he).2.1), (h.ok e he).2.2⟩
  have up2 : F x k → ∀ M, Mat F A B M → Mat F A' B' ((x, k) :: M) := fun hF M h => Mat.cons (h.mono fun e he => ⟨(hA _).2 (.inl (h.ok e he).1), (hB _).2 (.inl (h.ok e he).2.1), (h.ok e he).2.2⟩)
    (fun e he e1 => hx (e1 ▸ (h.ok e he).1)) (fun e he e1 => hk (e1 ▸ (h.ok e he).2.1)) ((hA _).2 (.inr rfl)) ((hB _).2 (.inr rfl)) hF
  have hgx := hg x k
  -- the second way: its value, or none
  have hb2 : (vb + c < 1099511627776 ∧ F x k ∧ Low F g A B n vb ∧ c = g x k) ∨ (1099511627776 ≤ vb + c ∧ (F x k → ∀ M, Mat F A B M → M.length ≠ n)) := by
    rcases hc with ⟨h1, h2⟩ | ⟨h1, h2⟩
    · rcases hb with ⟨h3, h4⟩ | ⟨h3, h4⟩
      · have := h4.bound hg
        exact .inl ⟨by omega, h1, h4, h2⟩
      · exact .inr ⟨by omega, fun _ => h4⟩
    · refine .inr ⟨?_, fun h => absurd h h1⟩
      rcases hb with ⟨h3, h4⟩ | ⟨h3, h4⟩
      · have := h4.bound hg
        omega
      · omega
  rcases ha with ⟨a1, a2⟩ | ⟨a1, a2⟩
  · refine .inl ⟨by omega, ?_, ?_⟩
    · rcases hb2 with ⟨b1, b2, ⟨⟨M, m1, m2, m3⟩, _⟩, b5⟩ | ⟨b1, b2⟩
      · obtain ⟨⟨N, n1, n2, n3⟩, _⟩ := a2
        rcases Int.lt_or_le (vb + c) va with h1 | h1
        · exact ⟨_, up2 b2 M m1, by rw [List.length_cons, m2], by rw [wt_cons]; simp only; omega⟩
        · exact ⟨N, up1 N n1, n2, by omega⟩
      · obtain ⟨⟨N, n1, n2, n3⟩, _⟩ := a2
        exact ⟨N, up1 N n1, n2, by omega⟩
    · intro M hM hlen
      rcases key M hM hlen with ⟨M1, k1, k2, k3⟩ | ⟨hF, M2, k1, k2, k3⟩
      · have := a2.2 M1 k1 k2
        omega
      · rcases hb2 with ⟨b1, b2, b3, b5⟩ | ⟨b1, b2⟩
        · have := b3.2 M2 k1 k2
          omega
        · exact absurd k2 (b2 hF M2 k1)
  · rcases hb2 with ⟨b1, b2, b3, b5⟩ | ⟨b1, b2⟩
    · obtain ⟨⟨M, m1, m2, m3⟩, b4⟩ := b3
      refine .inl ⟨by omega, ⟨_, up2 b2 M m1, by rw [List.length_cons, m2], by rw [wt_cons]; simp only; omega⟩, ?_⟩
      intro M hM hlen
      rcases key M hM hlen with ⟨M1, k1, k2, k3⟩ | ⟨hF, M2, k1, k2, k3⟩
      · exact absurd k2 (a2 M1 k1)
      · have := b4 M2 k1 k2
        omega
    · refine .inr ⟨by omega, fun M hM hlen => ?_⟩
      rcases key M hM hlen with ⟨M1, k1, k2, k3⟩ | ⟨hF, M2, k1, k2, k3⟩
      · exact a2 M1 k1 k2
      · exact b2 hF M2 k1 k2
end

/-- How much wider than the clearance allows a shaft is for a hole. -/
def gcost (s h : List Int) (lo : Int) (x k : Nat) : Int := max 0 (lo - (h.getD k 0 - s.getD x 0))
/-- The same, 2^40 if the hole is too wide. -/
def grd (s h : List Int) (lo hi : Int) (x k : Nat) : Int := if h.getD k 0 - s.getD x 0 > hi then 1099511627776 else gcost s h lo x k
/-- A shaft that can be ground for a hole. -/
def fitU (s h : List Int) (hi : Int) (x k : Nat) : Prop := x < s.length ∧ k < h.length ∧ h.getD k 0 - s.getD x 0 ≤ hi
/-- The least costs of the first shafts in the first holes. -/
def dpv (c : Nat → Nat → Int) : Nat → Nat → Int
  | 0, _ => 0
  | _ + 1, 0 => 1099511627776
  | i + 1, k + 1 => min (dpv c (i + 1) k) (dpv c i k + c i k)
theorem mem_take_succ {a : List Nat} {i v : Nat} (h : a[i]? = some v) (x : Nat) : x ∈ a.take (i + 1) ↔ x ∈ a.take i ∨ x = v := by
  rw [List.take_add_one, h]
  simp
theorem not_mem_take {a : List Nat} {i v : Nat} (hn : a.Nodup) (h : a[i]? = some v) : v ∉ a.take i := by
  have h1 : (a.take (i + 1)).Nodup := (List.take_sublist _ _).nodup hn
  rw [List.take_add_one, h, Option.toList_some, List.nodup_append] at h1
  intro hm
  exact h1.2.2 v hm v (by simp) rfl
theorem le_take {f : Nat → Int} {a : List Nat} {i v : Nat} (hn : a.Pairwise fun x y => f x ≤ f y) (h : a[i]? = some v) {x : Nat} (hx : x ∈ a.take i) : f x ≤ f v := by
  have h1 : (a.take (i + 1)).Pairwise fun x y => f x ≤ f y := hn.sublist (List.take_sublist _ _)
  rw [List.take_add_one, h, Option.toList_some, List.pairwise_append] at h1
  exact h1.2.2 x hx v (by simp)
/-- Shafts or holes by rising size. -/
structure SrtI (s : List Int) (a : List Nat) : Prop where
  nd : a.Nodup
  up : a.Pairwise fun x y => s.getD x 0 ≤ s.getD y 0
  lt : ∀ x ∈ a, x < s.length
theorem dp_low {s h : List Int} {lo hi : Int} {a b : List Nat} (ha : SrtI s a) (hb : SrtI h b) (h64 : a.length ≤ 64) (hg : ∀ x k, gcost s h lo x k ≤ 4000000) :
    ∀ k, k ≤ b.length → ∀ i, i ≤ a.length → LeaR (fitU s h hi) (gcost s h lo) (· ∈ a.take i) (· ∈ b.take k) i (dpv (fun i k => grd s h lo hi (a.getD i 0) (b.getD k 0)) i k) := by
  intro k
  induction k with
  | zero =>
    intro _ i _
    cases i with
    | zero => exact LeaR.zero
    | succ i => exact LeaR.none (by simp)
  | succ k ih =>
    intro hk i hi'
    cases i with
    | zero => exact LeaR.zero
    | succ i =>
      obtain ⟨x, hx⟩ : ∃ x, a[i]? = some x := ⟨_, List.getElem?_eq_getElem (by omega)⟩
      obtain ⟨z, hz⟩ : ∃ z, b[k]? = some z := ⟨_, List.getElem?_eq_getElem (by omega)⟩
      have ex : a.getD i 0 = x := by rw [List.getD_eq_getElem?_getD, hx]; rfl
      have ez : b.getD k 0 = z := by rw [List.getD_eq_getElem?_getD, hz]; rfl
      have hxm : x ∈ a := List.mem_of_getElem? hx
      have hzm : z ∈ b := List.mem_of_getElem? hz
      have hg0 : ∀ x k, 0 ≤ gcost s h lo x k ∧ gcost s h lo x k ≤ 4000000 := fun x k => ⟨by unfold gcost; omega, hg x k⟩
      have := LeaR.step (F := fitU s h hi) (g := gcost s h lo) (A := (· ∈ a.take i)) (B := (· ∈ b.take k)) (A' := (· ∈ a.take (i + 1))) (B' := (· ∈ b.take (k + 1))) (x := x) (k := z) (n := i) (L := a.take i)
        (c := grd s h lo hi x z) (mem_take_succ hx) (mem_take_succ hz) (not_mem_take ha.nd hx) (not_mem_take hb.nd hz) (fun y => Iff.rfl) (by rw [List.length_take]; omega) (by omega) hg0
        (fun y g hy hg' f1 f2 => by
          have l1 := le_take ha.up hx hy
          have l2 := le_take hb.up hz hg'
          unfold fitU at *
          unfold gcost
          refine ⟨⟨f1.1, f2.2.1, by omega⟩, ⟨f2.1, f1.2.1, by omega⟩, by omega⟩)
        (ih (by omega) (i + 1) hi') (ih (by omega) i (by omega)) (by
          unfold grd fitU
          have l1 := ha.lt x hxm
          have l2 := hb.lt z hzm
          split
          · exact .inr ⟨fun hh => by omega, rfl⟩
          · exact .inl ⟨⟨l1, l2, by omega⟩, rfl⟩)
      simp only [dpv, ex, ez]
      exact this
/-- The least cost of some shafts in some holes, both by rising size. -/
theorem dp_all {s h : List Int} {lo hi : Int} {a b : List Nat} (ha : SrtI s a) (hb : SrtI h b) (h64 : a.length ≤ 64) (hg : ∀ x k, gcost s h lo x k ≤ 4000000) :
    LeaR (fitU s h hi) (gcost s h lo) (· ∈ a) (· ∈ b) a.length (dpv (fun i k => grd s h lo hi (a.getD i 0) (b.getD k 0)) a.length b.length) := by
  have := dp_low (hi := hi) ha hb h64 hg b.length (Nat.le_refl _) a.length (Nat.le_refl _)
  rwa [List.take_length, List.take_length] at this
end Go.Proofs.Ytpklcjbdmikbdaa
namespace Go.Proofs.Ytpklcjbdmikbdaa

/-- The pairs of a row: of each shaft from j on its hole. -/
def prs : Nat → List Int → List (Nat × Nat)
  | _, [] => []
  | j, v :: o => (j, v.toNat) :: prs (j + 1) o
theorem prs_fst : ∀ (j : Nat) (o : List Int), (prs j o).map Prod.fst = List.range' j o.length
  | _, [] => rfl
  | j, v :: o => by rw [prs, List.map_cons, prs_fst (j + 1) o, List.length_cons, List.range'_succ]
theorem prs_len (j : Nat) (o : List Int) : (prs j o).length = o.length := by
  have := congrArg List.length (prs_fst j o)
  simpa using this
theorem prs_append : ∀ (j : Nat) (a b : List Int), prs j (a ++ b) = prs j a ++ prs (j + a.length) b
  | _, [], _ => rfl
  | j, v :: a, b => by
    rw [List.cons_append, prs, prs, prs_append (j + 1) a b, List.cons_append, List.length_cons, show j + 1 + a.length = j + (a.length + 1) by omega]
theorem mem_prs {x k : Nat} : ∀ {j : Nat} {o : List Int}, (x, k) ∈ prs j o ↔ j ≤ x ∧ ∃ v, o[x - j]? = some v ∧ v.toNat = k
  | j, [] => by simp [prs]
  | j, v :: o => by
    have ih := mem_prs (x := x) (k := k) (j := j + 1) (o := o)
    rw [prs, List.mem_cons, ih]
    rcases Nat.lt_trichotomy x j with hx | rfl | hx
    · constructor
      · rintro (h | ⟨h, _⟩)
        · injection h with h1 h2; omega
        · omega
      · rintro ⟨h, _⟩; omega
    · rw [Nat.sub_self, List.getElem?_cons_zero]
      constructor
      · rintro (h | ⟨h, _⟩)
        · injection h with h1 h2; exact ⟨Nat.le_refl _, v, rfl, h2.symm⟩
        · omega
      · rintro ⟨_, u, h1, h2⟩
        injection h1 with h1
        rw [← h2, ← h1]
        exact .inl rfl
    · rw [show x - j = (x - (j + 1)) + 1 by omega, List.getElem?_cons_succ]
      constructor
      · rintro (h | ⟨h, h2⟩)
        · injection h with h1 h2; omega
        · exact ⟨by omega, h2⟩
      · rintro ⟨h, h2⟩; exact .inr ⟨hx, h2⟩
section
variable {F : Nat → Nat → Prop} {g : Nat → Nat → Int}
theorem wt_append (M N : List (Nat × Nat)) : wt g (M ++ N) = wt g M + wt g N := by
  unfold wt
  rw [List.map_append, List.sum_append]
/-- All shafts have holes of their own. -/
structure AsgL (F : Nat → Nat → Prop) (m : Nat) (o : List Int) : Prop where
  nat : ∀ v ∈ o, 0 ≤ v
  pl : PairL F m o
theorem AsgL.at_ {m : Nat} {o : List Int} (h : AsgL F m o) {i : Nat} (hi : i < o.length) : ∃ k : Nat, o[i]? = some (k : Int) := by
  have e := List.getElem?_eq_getElem hi
  have h0 := h.nat _ (List.mem_of_getElem? e)
  exact ⟨o[i].toNat, by rw [e]; congr 1; omega⟩
theorem AsgL.mat {m : Nat} {o : List Int} (h : AsgL F m o) {i : Nat} {B : Nat → Prop} (hB : ∀ x k : Nat, i ≤ x → o[x]? = some (k : Int) → B k) : Mat F (fun x => i ≤ x ∧ x < o.length) B (prs i (o.drop i)) := by
  have hm : ∀ x k : Nat, (x, k) ∈ prs i (o.drop i) → i ≤ x ∧ o[x]? = some (k : Int) := fun x k hx => by
    obtain ⟨h1, v, h2, h3⟩ := mem_prs.1 hx
    rw [List.getElem?_drop, show i + (x - i) = x by omega] at h2
    have := h.nat v (List.mem_of_getElem? h2)
    exact ⟨h1, by rw [h2]; congr 1; omega⟩
  have h1 : ((prs i (o.drop i)).map Prod.fst).Nodup := by rw [prs_fst]; exact List.nodup_range'
  have hn : (prs i (o.drop i)).Nodup := by
    generalize prs i (o.drop i) = l at h1
    induction l with
    | nil => exact List.nodup_nil
    | cons a l ih =>
      rw [List.map_cons, List.nodup_cons] at h1
      rw [List.nodup_cons]
      exact ⟨fun hm => h1.1 (List.mem_map.2 ⟨a, hm, rfl⟩), ih h1.2⟩
  refine ⟨h1, ?_, fun e he => ?_⟩
  · refine nodup_of_inj hn fun a ha b hb e => ?_
    have e1 := (hm a.1 a.2 ha).2
    have e2 := (hm b.1 b.2 hb).2
    rw [e] at e1
    exact Prod.ext (h.pl.inj _ _ _ e1 e2) e
  · obtain ⟨e1, e2⟩ := hm e.1 e.2 he
    exact ⟨⟨e1, (List.getElem?_eq_some_iff.1 e2).1⟩, hB _ _ e1 e2, (h.pl.fit _ _ e2).1⟩
/-- A hole that the shaft can get at the least cost. -/
def CandG (F : Nat → Nat → Prop) (g : Nat → Nat → Int) (N i : Nat) (B : Nat → Prop) (left : Int) (k : Nat) : Prop :=
  B k ∧ F i k ∧ Low F g (fun x => i + 1 ≤ x ∧ x < N) (fun h => B h ∧ h ≠ k) (N - (i + 1)) (left - g i k)
/-- The holes of the first shafts. -/
inductive GTo (F : Nat → Nat → Prop) (g : Nat → Nat → Int) (m N : Nat) (tot : Int) : Nat → (Nat → Prop) → Int → List Int → Prop
  | first (B : Nat → Prop) (hB : ∀ k, B k ↔ k < m) : GTo F g m N tot 0 B tot []
  | hit {i k : Nat} {B B' : Nat → Prop} {left : Int} {tt : List Int} (h : GTo F g m N tot i B left tt) (hc : CandG F g N i B left k) (hf : ∀ k', k' < k → ¬ CandG F g N i B left k') (hB : ∀ h, B' h ↔ B h ∧ h ≠ k) :
      GTo F g m N tot (i + 1) B' (left - g i k) (tt ++ [(k : Int)])
variable {m N i : Nat} {tot left : Int} {B : Nat → Prop} {tt : List Int}
theorem GTo.low (h0 : Low F g (· < N) (· < m) N tot) (h : GTo F g m N tot i B left tt) : Low F g (fun x => i ≤ x ∧ x < N) B (N - i) left := by
  induction h with
  | first B hB => exact h0.congr fun x k => by rw [hB]; simp
  | hit h hc hf hB ih => exact hc.2.2.congr fun x k => by rw [hB]
theorem Low.cand (h : Low F g (fun x => i ≤ x ∧ x < N) B (N - i) left) (hi : i < N) : ∃ k, CandG F g N i B left k := by
  obtain ⟨⟨M, m1, m2, m3⟩, m4⟩ := h
  obtain ⟨k, hk⟩ := m1.full (L := List.range' i (N - i)) (fun x hx => List.mem_range'_1.2 ⟨hx.1, by omega⟩) (by rw [List.length_range', m2]) (x := i) (List.mem_range'_1.2 ⟨by omega, by omega⟩)
  have ok := m1.ok _ hk
  have w1 := wt_erase (g := g) hk
  have l1 := List.length_erase_of_mem hk
  refine ⟨k, ok.2.1, ok.2.2, ⟨M.erase (i, k), (m1.erase _).mono fun e he => ?_, by omega, by simp only at w1; omega⟩, fun M' h' hl' => ?_⟩
  · obtain ⟨e1, e2⟩ := (List.Nodup.mem_erase_iff m1.nodup).1 he
    have ok2 := m1.ok e e2
    refine ⟨⟨?_, ok2.1.2⟩, ⟨ok2.2.1, fun e3 => e1 (m1.snd_eq e2 hk e3)⟩, ok2.2.2⟩
    have : e.1 ≠ i := fun e3 => e1 (m1.fst_eq e2 hk e3)
    have := ok2.1.1
    omega
  · have := m4 ((i, k) :: M') (Mat.cons (h'.mono fun e he => ⟨⟨by have := (h'.ok e he).1.1; omega, (h'.ok e he).1.2⟩, (h'.ok e he).2.1.1, (h'.ok e he).2.2⟩) (fun e he e1 => by have := (h'.ok e he).1.1; omega) (fun e he e1 => (h'.ok e he).2.1.2 e1) ⟨Nat.le_refl _, hi⟩ ok.2.1 ok.2.2) (by rw [List.length_cons]; omega)
    rw [wt_cons] at this
    simp only at this
    omega
theorem GTo.len (h : GTo F g m N tot i B left tt) : tt.length = i := by
  induction h <;> simp_all
theorem GTo.cost (h : GTo F g m N tot i B left tt) : left + wt g (prs 0 tt) = tot := by
  induction h with
  | first => simp [prs, wt]
  | hit h hc hf hB ih =>
    have hl := h.len
    rw [prs_append, wt_append, hl]
    simp only [prs, wt_cons, Nat.zero_add, Int.toNat_natCast]
    simp only [wt, List.map_nil, List.sum_nil]
    simp only [wt] at ih
    omega
theorem GTo.used (h : GTo F g m N tot i B left tt) (k : Nat) : B k ↔ k < m ∧ (k : Int) ∉ tt := by
  induction h with
  | first B hB => simp [hB]
  | @hit i k' B B' left tt h hc hf hB ih =>
    rw [hB, ih]
    simp only [List.mem_append, List.mem_singleton, not_or]
    constructor
    · rintro ⟨⟨h1, h2⟩, h3⟩; exact ⟨h1, h2, by omega⟩
    · rintro ⟨h1, h2, h3⟩; exact ⟨⟨h1, h2⟩, by omega⟩
theorem GTo.ok (h : GTo F g m N tot i B left tt) : AsgL F m tt := by
  induction h with
  | first => exact ⟨by simp, by simp, by simp, by simp⟩
  | @hit i k' B B' left tt h hc hf hB ih =>
    have hl := h.len
    have hu := (h.used k').1 hc.1
    have hn : ∀ j : Nat, tt[j]? ≠ some (k' : Int) := fun j hj => hu.2 (List.mem_of_getElem? hj)
    refine ⟨fun v hv => ?_, fun v hv => ?_, fun j k hk => ?_, fun j j' k hk hk' => ?_⟩
    · rcases List.mem_append.1 hv with h1 | h1
      · exact ih.nat v h1
      · simp at h1; omega
    · rcases List.mem_append.1 hv with h1 | h1
      · exact ih.pl.low v h1
      · simp at h1; omega
    · rcases snoc_get hk with h1 | ⟨h1, h2⟩
      · exact ih.pl.fit j k h1
      · rw [show j = i by omega, show k = k' by omega]; exact ⟨hc.2.1, hu.1⟩
    · rcases snoc_get hk with h1 | ⟨h1, h2⟩
      · rcases snoc_get hk' with h3 | ⟨h3, h4⟩
        · exact ih.pl.inj j j' k h1 h3
        · exact absurd (h4 ▸ h1) (hn j)
      · rcases snoc_get hk' with h3 | ⟨h3, h4⟩
        · exact absurd (h2 ▸ h3) (hn j')
        · omega
/-- At the end nothing is left. -/
theorem GTo.fin (h0 : Low F g (· < N) (· < m) N tot) (h : GTo F g m N tot N B left tt) : wt g (prs 0 tt) = tot := by
  obtain ⟨⟨M, m1, m2, m3⟩, _⟩ := h.low h0
  have : M = [] := List.eq_nil_of_length_eq_zero (by omega)
  subst this
  have := h.cost
  simp [wt] at m3
  omega
/-- No assignment costs less. -/
theorem AsgL.ge {o : List Int} (h0 : Low F g (· < N) (· < m) N tot) (ho : AsgL F m o) (hl : o.length = N) : tot ≤ wt g (prs 0 o) := by
  have := ho.mat (i := 0) (B := (· < m)) (fun x k _ hk => (ho.pl.fit _ _ hk).2)
  rw [List.drop_zero] at this
  exact h0.2 _ (this.mono fun e he => ⟨by have := (this.ok e he).1.2; omega, (this.ok e he).2⟩) (by rw [prs_len, hl])
/-- No assignment that costs as little is less. -/
theorem GTo.least {o : List Int} (h0 : Low F g (· < N) (· < m) N tot) (h : GTo F g m N tot i B left tt) (ho : AsgL F m o) (hl : o.length = N) (hc : wt g (prs 0 o) = tot) (hi : i ≤ N) : lessL (o.take i) tt = false := by
  have key : ∀ {i : Nat} {B : Nat → Prop} {left : Int} {tt : List Int}, GTo F g m N tot i B left tt → o.take i = tt → ∀ k : Nat, o[i]? = some (k : Int) → CandG F g N i B left k := by
    intro i B left tt h e k hk
    have hil : i < o.length := (List.getElem?_eq_some_iff.1 hk).1
    have hF := ho.pl.fit i k hk
    have hBk : ∀ x k : Nat, i ≤ x → o[x]? = some (k : Int) → B k := fun x k hx hk => (h.used k).2 ⟨(ho.pl.fit _ _ hk).2, fun hm => by
      rw [← e] at hm
      obtain ⟨j, hj⟩ := List.getElem?_of_mem hm
      rw [List.getElem?_take] at hj
      split at hj
      · have := ho.pl.inj j x k hj hk; omega
      · cases hj⟩
    have hcost := h.cost
    have hlow := h.low h0
    have hsplit : prs 0 o = prs 0 tt ++ (i, k) :: prs (i + 1) (o.drop (i + 1)) := by
      conv => lhs; rw [← List.take_append_drop i o, prs_append]
      rw [List.length_take, show 0 + min i o.length = i by omega, List.drop_eq_getElem_cons hil, prs, e]
      have := List.getElem?_eq_getElem hil
      rw [this] at hk
      rw [Option.some.inj hk]
      rfl
    rw [hsplit, wt_append, wt_cons] at hc
    simp only at hc
    have hmat := ho.mat (i := i + 1) (B := fun h => B h ∧ h ≠ k) (fun x y hx hy => ⟨hBk x y (by omega) hy, fun e1 => by
      rw [e1] at hy
      have := ho.pl.inj x i k hy hk
      omega⟩)
    have hlen : (prs (i + 1) (o.drop (i + 1))).length = N - (i + 1) := by rw [prs_len, List.length_drop, hl]
    rw [hl] at hmat
    refine ⟨hBk i k (Nat.le_refl _) hk, hF.1, ⟨_, hmat, hlen, by omega⟩, fun M hM hlM => ?_⟩
    have := hlow.2 ((i, k) :: M) (Mat.cons (hM.mono fun e he => ⟨⟨by have := (hM.ok e he).1.1; omega, (hM.ok e he).1.2⟩, (hM.ok e he).2.1.1, (hM.ok e he).2.2⟩) (fun e he e1 => by have := (hM.ok e he).1.1; omega) (fun e he e1 => (hM.ok e he).2.1.2 e1) ⟨Nat.le_refl _, by omega⟩ (hBk i k (Nat.le_refl _) hk) hF.1) (by rw [List.length_cons]; omega)
    rw [wt_cons] at this
    simp only at this
    omega
  induction h with
  | first => simp [lessL]
  | @hit i k B B' left tt h hc' hf hB ih =>
    have ih := ih (by omega)
    have hl2 := h.len
    obtain ⟨u, hu⟩ := ho.at_ (i := i) (by omega)
    rw [List.take_add_one, hu, Option.toList_some, lessL_snoc _ _ _ _ (by rw [List.length_take]; omega)]
    split
    · rename_i e
      split
      · rfl
      · have hlt : ¬ u < k := fun hlt => hf u hlt (key h e u hu)
        simp
        omega
    · exact ih
/-- Of two assignments one is less. -/
theorem lessL_total : ∀ {a b : List Int}, a.length = b.length → (∀ v ∈ a, 0 ≤ v) → (∀ v ∈ b, 0 ≤ v) → lessL a b = false → lessL b a = false → a = b
  | [], [], _, _, _, _, _ => rfl
  | x :: a, y :: b, hl, ha, hb, h1, h2 => by
    have hx := ha x (by simp)
    have hy := hb y (by simp)
    simp only [lessL] at h1 h2
    by_cases e : x = y
    · rw [if_pos e] at h1
      rw [if_pos e.symm] at h2
      rw [e, lessL_total (by simpa using hl) (fun v hv => ha v (by simp [hv])) (fun v hv => hb v (by simp [hv])) h1 h2]
    · rw [if_neg e] at h1
      rw [if_neg (Ne.symm e)] at h2
      simp at h1 h2
      omega
  | [], _ :: _, hl, _, _, _, _ => by simp at hl
  | _ :: _, [], hl, _, _, _, _ => by simp at hl
end
end Go.Proofs.Ytpklcjbdmikbdaa
namespace Go.Proofs.Ytpklcjbdmikbdaa

open Classical in
/-- What an assignment grinds off; -1 if it is none. -/
noncomputable def grv (F : Nat → Nat → Prop) (g : Nat → Nat → Int) (m N : Nat) (o : List Int) : Int := if AsgL F m o ∧ o.length = N then wt g (prs 0 o) else -1
/-- All ways to go on from the holes of the first shafts. -/
def ext (m : Nat) : Nat → List Int → List (List Int)
  | 0, b => [b]
  | d + 1, b => ((List.range m).filter fun (k : Nat) => !(b.contains (k : Int))).flatMap fun (k : Nat) => ext m d (b ++ [(k : Int)])
/-- One assignment more. -/
noncomputable def gstep (v : List Int → Int) (st : List Int × Int) (o : List Int) : List Int × Int := if 0 ≤ v o ∧ (st.2 < 0 ∨ v o < st.2) then (o, v o) else st
/-- The best one of a list. -/
structure BestG (v : List Int → Int) (L : List (List Int)) (st : List Int × Int) : Prop where
  none : st.2 < 0 → st = ([], -1) ∧ ∀ o ∈ L, v o < 0
  some : 0 ≤ st.2 → st.1 ∈ L ∧ v st.1 = st.2 ∧ ∀ o ∈ L, 0 ≤ v o → st.2 ≤ v o ∧ (v o = st.2 → lessL o st.1 = false)
section
variable {v : List Int → Int} {L : List (List Int)} {st : List Int × Int} {o : List Int}
theorem BestG.nil : BestG v [] ([], -1) := ⟨fun _ => ⟨rfl, by simp⟩, fun h => by simp at h⟩
theorem BestG.snoc (h : BestG v L st) (hl : ∀ p ∈ L, lessL o p = false) : BestG v (L ++ [o]) (gstep v st o) := by
  unfold gstep
  split
  · rename_i hc
    refine ⟨fun hh => by simp only at hh; omega, fun _ => ⟨by simp, rfl, fun p hp hv => ?_⟩⟩
    rcases List.mem_append.1 hp with hp | hp
    · rcases Int.lt_or_le st.2 0 with h1 | h1
      · have := (h.none h1).2 p hp
        omega
      · have := (h.some h1).2.2 p hp hv
        simp only
        exact ⟨by omega, fun e => by omega⟩
    · rw [List.mem_singleton] at hp
      subst hp
      exact ⟨Int.le_refl _, fun _ => lessL_self _⟩
  · rename_i hc
    refine ⟨fun h1 => ⟨(h.none h1).1, fun p hp => ?_⟩, fun h1 => ⟨?_, (h.some h1).2.1, fun p hp hv => ?_⟩⟩
    · rcases List.mem_append.1 hp with hp | hp
      · exact (h.none h1).2 p hp
      · rw [List.mem_singleton] at hp
        subst hp
        omega
    · exact List.mem_append_left _ (h.some h1).1
    · rcases List.mem_append.1 hp with hp | hp
      · exact (h.some h1).2.2 p hp hv
      · rw [List.mem_singleton] at hp
        subst hp
        exact ⟨by omega, fun _ => hl _ (h.some h1).1⟩
/-- The best one of a list in order. -/
theorem best_all : ∀ {R L : List (List Int)} {st : List Int × Int}, BestG v L st → (∀ p ∈ L, ∀ o ∈ R, lessL o p = false) → R.Pairwise (fun a b => lessL b a = false) → BestG v (L ++ R) (R.foldl (gstep v) st)
  | [], L, st, h, _, _ => by simpa using h
  | o :: R, L, st, h, h1, h2 => by
    rw [List.pairwise_cons] at h2
    have := best_all (R := R) (h.snoc (o := o) fun p hp => h1 p hp o (by simp)) (fun p hp q hq => by
      rcases List.mem_append.1 hp with hp | hp
      · exact h1 p hp q (by simp [hq])
      · rw [List.mem_singleton] at hp
        subst hp
        exact h2.1 q hq) h2.2
    simpa using this
end
theorem lessL_head : ∀ (b : List Int) (x y : Int) (s t : List Int), x < y → 0 ≤ x → lessL (b ++ y :: t) (b ++ x :: s) = false
  | [], x, y, s, t, h, h0 => by
    have h1 : ¬ y = x := by omega
    have h2 : ¬ x = -1 := by omega
    have h3 : ¬ y < x := by omega
    simp [lessL, h1, h2, h3]
  | c :: b, x, y, s, t, h, h0 => by simp [lessL, lessL_head b x y s t h h0]
theorem ext_head : ∀ {m d : Nat} {b o : List Int}, o ∈ ext m d b → ∃ t, o = b ++ t
  | _, 0, b, o, h => ⟨[], by simpa [ext] using h⟩
  | m, d + 1, b, o, h => by
    simp only [ext, List.mem_flatMap] at h
    obtain ⟨k, _, h⟩ := h
    obtain ⟨t, ht⟩ := ext_head h
    exact ⟨(k : Int) :: t, by rw [ht]; simp⟩
theorem ext_order : ∀ {m d : Nat} {b : List Int}, (ext m d b).Pairwise fun x y => lessL y x = false
  | _, 0, b => by simp [ext]
  | m, d + 1, b => by
    simp only [ext]
    rw [List.pairwise_flatMap]
    refine ⟨fun k _ => ext_order, ?_⟩
    refine ((List.pairwise_lt_range (n := m)).filter _).imp fun {x y} hxy a ha c hc => ?_
    obtain ⟨t, rfl⟩ := ext_head ha
    obtain ⟨u, rfl⟩ := ext_head hc
    rw [List.append_assoc, List.append_assoc]
    exact lessL_head b _ _ _ _ (by omega) (by omega)
theorem ext_all {F : Nat → Nat → Prop} {m : Nat} {o : List Int} (h : AsgL F m o) : ∀ d, d ≤ o.length → o ∈ ext m d (o.take (o.length - d)) := by
  intro d
  induction d with
  | zero => intro _; simp [ext]
  | succ d ih =>
    intro hd
    have ih := ih (by omega)
    obtain ⟨k, hk⟩ := h.at_ (i := o.length - (d + 1)) (by omega)
    simp only [ext, List.mem_flatMap, List.mem_filter]
    refine ⟨k, ⟨List.mem_range.2 (h.pl.fit _ _ hk).2, ?_⟩, ?_⟩
    · have : (k : Int) ∉ o.take (o.length - (d + 1)) := fun hm => by
        obtain ⟨j, hj⟩ := List.getElem?_of_mem hm
        rw [List.getElem?_take] at hj
        split at hj
        · have := h.pl.inj _ _ _ hj hk; omega
        · cases hj
      simpa using this
    · have e : o.take (o.length - (d + 1)) ++ [(k : Int)] = o.take (o.length - d) := by
        rw [show o.length - d = o.length - (d + 1) + 1 by omega, List.take_add_one, hk]
        rfl
      rw [e]
      exact ih
/-- The best of all. -/
theorem best_ext (v : List Int → Int) (m N : Nat) : BestG v (ext m N []) ((ext m N []).foldl (gstep v) ([], -1)) := by
  have := best_all (v := v) (R := ext m N []) BestG.nil (by simp) ext_order
  simpa using this
section
variable {F : Nat → Nat → Prop} {g : Nat → Nat → Int} {m N : Nat}
theorem grv_pos {o : List Int} (h0 : ∀ x k, 0 ≤ g x k) : 0 ≤ grv F g m N o ↔ AsgL F m o ∧ o.length = N := by
  unfold grv
  split
  · rename_i h
    exact ⟨fun _ => h, fun _ => wt_nonneg h0⟩
  · rename_i h
    exact ⟨fun hh => by omega, fun hh => absurd hh h⟩
theorem grv_eq {o : List Int} (h : AsgL F m o) (hl : o.length = N) : grv F g m N o = wt g (prs 0 o) := by
  unfold grv
  rw [if_pos ⟨h, hl⟩]
/-- Where there is an assignment: the search among all finds the one that is built hole by hole. -/
theorem best_yes {tot left : Int} {B : Nat → Prop} {tt : List Int} (h0 : ∀ x k, 0 ≤ g x k) (hlow : Low F g (· < N) (· < m) N tot) (h : GTo F g m N tot N B left tt) {st : List Int × Int} (hb : BestG (grv F g m N) (ext m N []) st) : st = (tt, tot) := by
  have hf := h.fin hlow
  have hlen := h.len
  have hin := ext_all h.ok tt.length (Nat.le_refl _)
  rw [Nat.sub_self, List.take_zero, hlen] at hin
  have hv := grv_eq (g := g) h.ok hlen
  rw [hf] at hv
  have htot : 0 ≤ tot := by rw [← hf]; exact wt_nonneg h0
  rcases Int.lt_or_le st.2 0 with h1 | h1
  · have := (hb.none h1).2 tt hin
    omega
  · obtain ⟨b1, b2, b3⟩ := hb.some h1
    obtain ⟨b4, b5⟩ := b3 tt hin (by omega)
    obtain ⟨q1, q2⟩ := (grv_pos (F := F) (m := m) (N := N) h0).1 (by omega : 0 ≤ grv F g m N st.1)
    have q3 := grv_eq (g := g) q1 q2
    have q4 := q1.ge hlow q2
    have e2 : st.2 = tot := by omega
    have l1 := h.least hlow q1 q2 (by omega) (Nat.le_refl _)
    rw [← q2, List.take_length] at l1
    have l2 := b5 (by omega)
    have := lessL_total (by omega) q1.nat h.ok.nat l1 l2
    rw [← this, ← e2]
theorem best_no {st : List Int × Int} (h0 : ∀ x k, 0 ≤ g x k) (hno : ∀ M, Mat F (· < N) (· < m) M → M.length ≠ N) (hb : BestG (grv F g m N) (ext m N []) st) : st.2 < 0 := by
  rcases Int.lt_or_le st.2 0 with h1 | h1
  · exact h1
  · obtain ⟨b1, b2, b3⟩ := hb.some h1
    obtain ⟨q1, q2⟩ := (grv_pos (F := F) (m := m) (N := N) h0).1 (by omega : 0 ≤ grv F g m N st.1)
    have := q1.mat (i := 0) (B := (· < m)) (fun x k _ hk => (q1.pl.fit _ _ hk).2)
    rw [List.drop_zero] at this
    exact absurd (by rw [prs_len, q2]) (hno _ (this.mono fun e he => ⟨by have := (this.ok e he).1.2; omega, (this.ok e he).2⟩))
end
/-- The search from some holes on. -/
noncomputable def gsub (v : List Int → Int) (m d : Nat) (b : List Int) (st : List Int × Int) : List Int × Int := (ext m d b).foldl (gstep v) st
/-- The search over the first k holes of the next shaft. -/
noncomputable def gpre (v : List Int → Int) (m d : Nat) (b : List Int) (st : List Int × Int) (k : Nat) : List Int × Int :=
  (((List.range k).filter fun (k : Nat) => !(b.contains (k : Int))).flatMap fun (k : Nat) => ext m d (b ++ [(k : Int)])).foldl (gstep v) st
section
variable {v : List Int → Int} {m d k : Nat} {b : List Int} {st : List Int × Int}
theorem gsub_zero : gsub v m 0 b st = gstep v st b := rfl
theorem gsub_succ : gsub v m (d + 1) b st = gpre v m d b st m := rfl
theorem gpre_zero : gpre v m d b st 0 = st := rfl
theorem gpre_skip (h : (k : Int) ∈ b) : gpre v m d b st (k + 1) = gpre v m d b st k := by
  unfold gpre
  rw [List.range_succ, List.filter_append]
  simp [h]
theorem gpre_take (h : (k : Int) ∉ b) : gpre v m d b st (k + 1) = gsub v m d (b ++ [(k : Int)]) (gpre v m d b st k) := by
  unfold gpre gsub
  rw [List.range_succ, List.filter_append, List.flatMap_append, List.foldl_append]
  simp [h]
end
end Go.Proofs.Ytpklcjbdmikbdaa
namespace Go.Proofs.Ytpklcjbdmikbdaa

section
variable {s h : List Int} {lo hi : Int} {o : List Int} {m : Nat}
theorem fitP_zero {x k : Nat} : fitP s h lo hi x k ↔ fitU s h hi x k ∧ gcost s h lo x k = 0 := by
  unfold fitP fitU gcost
  constructor
  · rintro ⟨h1, h2, h3, h4⟩
    exact ⟨⟨h1, h2, h4⟩, by omega⟩
  · rintro ⟨⟨h1, h2, h4⟩, h5⟩
    exact ⟨h1, h2, by omega, h4⟩
theorem wt_zero {g : Nat → Nat → Int} {M : List (Nat × Nat)} (hg : ∀ x k, 0 ≤ g x k) (h : wt g M = 0) : ∀ e ∈ M, g e.1 e.2 = 0 := by
  induction M with
  | nil => simp
  | cons a M ih =>
    rw [wt_cons] at h
    have h1 := hg a.1 a.2
    have h2 := wt_nonneg (M := M) hg
    intro e he
    rcases List.mem_cons.1 he with rfl | he
    · omega
    · exact ih (by omega) e he
theorem wt_zeros {g : Nat → Nat → Int} {M : List (Nat × Nat)} (h : ∀ e ∈ M, g e.1 e.2 = 0) : wt g M = 0 := by
  induction M with
  | nil => rfl
  | cons a M ih =>
    rw [wt_cons, h a (by simp), ih fun e he => h e (by simp [he])]
    rfl
theorem gcost_pos (s h : List Int) (lo : Int) (x k : Nat) : 0 ≤ gcost s h lo x k := by unfold gcost; omega
theorem asg_zero (ho : AsgL (fitU s h hi) m o) (hw : wt (gcost s h lo) (prs 0 o) = 0) : AsgL (fitP s h lo hi) m o := by
  refine ⟨ho.nat, ho.pl.low, fun j k hk => ?_, ho.pl.inj⟩
  have h1 := ho.pl.fit j k hk
  have h2 := wt_zero (gcost_pos s h lo) hw (j, k) (mem_prs.2 ⟨Nat.zero_le _, _, by simpa using hk, by simp⟩)
  exact ⟨fitP_zero.2 ⟨h1.1, h2⟩, h1.2⟩
theorem asg_fit (ho : AsgL (fitP s h lo hi) m o) : AsgL (fitU s h hi) m o ∧ wt (gcost s h lo) (prs 0 o) = 0 := by
  refine ⟨⟨ho.nat, ho.pl.low, fun j k hk => ⟨(fitP_zero.1 (ho.pl.fit j k hk).1).1, (ho.pl.fit j k hk).2⟩, ho.pl.inj⟩, wt_zeros fun e he => ?_⟩
  obtain ⟨x, k⟩ := e
  obtain ⟨_, v, h1, h2⟩ := mem_prs.1 he
  have h3 := ho.nat v (List.mem_of_getElem? h1)
  have h4 : o[x]? = some (k : Int) := by
    rw [Nat.sub_zero] at h1
    rw [h1]
    congr 1
    omega
  exact (fitP_zero.1 (ho.pl.fit x k h4).1).2
theorem cnt_full : cnt o = o.length ↔ ∀ v ∈ o, 0 ≤ v := by
  unfold cnt
  rw [List.length_filter_eq_length_iff]
  simp
end
section
variable {s h : List Int} {lo hi tot : Int} {n left : Nat} {BB B : Nat → Prop} {tt ut : List Int} {l : Int}
theorem pair_cnt (hmx : Mx (fitP s h lo hi) (fun _ => True) (· < h.length) n) (hpt : PairTo (fitP s h lo hi) h.length n s.length BB left tt) : cnt tt = n := by
  have h1 := hpt.cnt_
  have h2 : left = 0 := (hpt.mx hmx).uniq (Mx.none (fun x k hx _ hF => by have := hF.1; omega) rfl)
  omega
theorem pair_le (hmx : Mx (fitP s h lo hi) (fun _ => True) (· < h.length) n) (hpt : PairTo (fitP s h lo hi) h.length n s.length BB left tt) : n ≤ s.length := by
  have h1 := pair_cnt hmx hpt
  have h2 : cnt tt ≤ tt.length := List.length_filter_le _ _
  have h3 := hpt.len
  omega
theorem pair_full (hmx : Mx (fitP s h lo hi) (fun _ => True) (· < h.length) n) (hpt : PairTo (fitP s h lo hi) h.length n s.length BB left tt) (hn : n = s.length) : AsgL (fitP s h lo hi) h.length tt := by
  refine ⟨cnt_full.1 ?_, hpt.ok⟩
  rw [pair_cnt hmx hpt, hpt.len, hn]
theorem paired_all (hmx : Mx (fitP s h lo hi) (fun _ => True) (· < h.length) n) (hpt : PairTo (fitP s h lo hi) h.length n s.length BB left tt) (hlow : Low (fitU s h hi) (gcost s h lo) (· < s.length) (· < h.length) s.length tot)
    (hG : GTo (fitU s h hi) (gcost s h lo) h.length s.length tot s.length B l ut) : (n = s.length ↔ tot = 0) ∧ (tot = 0 → tt = ut) := by
  have hw := hG.fin hlow
  have h0 : 0 ≤ tot := by rw [← hw]; exact wt_nonneg (gcost_pos s h lo)
  have a1 : n = s.length → tot = 0 := fun hn => by
    obtain ⟨q1, q2⟩ := asg_fit (pair_full hmx hpt hn)
    have := q1.ge hlow hpt.len
    omega
  have a2 : tot = 0 → n = s.length ∧ tt = ut := fun ht => by
    have q1 := asg_zero (lo := lo) hG.ok (by rw [hw, ht])
    have q2 := q1.pl.le hmx
    rw [cnt_full.2 q1.nat, hG.len] at q2
    have q3 := pair_le hmx hpt
    have hn : n = s.length := by omega
    refine ⟨hn, ?_⟩
    have p1 := pair_full hmx hpt hn
    obtain ⟨p2, p3⟩ := asg_fit p1
    have l1 := hpt.least hmx q1.pl (by rw [cnt_full.2 q1.nat, hG.len, hn]) (by rw [hG.len]; exact Nat.le_refl _)
    have l2 := hG.least hlow p2 hpt.len (by rw [p3, ht]) (Nat.le_refl _)
    rw [← hG.len, List.take_length] at l1
    rw [← hpt.len, List.take_length] at l2
    exact lessL_total (by rw [hpt.len, hG.len]) p1.nat q1.nat l2 l1
  exact ⟨⟨a1, fun ht => (a2 ht).1⟩, fun ht => (a2 ht).2⟩
/-- Where nothing can be ground so that all fit, not all are paired. -/
theorem paired_no (hmx : Mx (fitP s h lo hi) (fun _ => True) (· < h.length) n) (hpt : PairTo (fitP s h lo hi) h.length n s.length BB left tt) (hno : ∀ M, Mat (fitU s h hi) (· < s.length) (· < h.length) M → M.length ≠ s.length) : n < s.length := by
  have h1 := pair_le hmx hpt
  rcases Nat.lt_or_ge n s.length with h2 | h2
  · exact h2
  · obtain ⟨q1, _⟩ := asg_fit (pair_full hmx hpt (by omega))
    have := q1.mat (i := 0) (B := (· < h.length)) (fun x k _ hk => (q1.pl.fit _ _ hk).2)
    rw [List.drop_zero] at this
    exact absurd (by rw [prs_len, hpt.len]) (hno _ (this.mono fun e he => ⟨by have h5 := (this.ok e he).1.2; have h6 := hpt.len; omega, (this.ok e he).2⟩))
/-- All shafts can be ground ut fit exactly if a clearance without a lower bound pairs them all. -/
theorem able_iff (hs : ∀ x k : Nat, -2000000 ≤ h.getD k 0 - s.getD x 0) {n' : Nat} (hmx : Mx (fitP s h (-4000000) hi) (fun _ => True) (· < h.length) n') {v : Int} (hv : LeaR (fitU s h hi) (gcost s h lo) (· < s.length) (· < h.length) s.length v) : n' = s.length ↔ v < 1099511627776 := by
  have hf : ∀ x k, fitP s h (-4000000) hi x k ↔ fitU s h hi x k := fun x k => by
    have := hs x k
    unfold fitP fitU
    constructor
    · rintro ⟨h1, h2, h3, h4⟩; exact ⟨h1, h2, h4⟩
    · rintro ⟨h1, h2, h4⟩; exact ⟨h1, h2, by omega, h4⟩
  rcases hv with ⟨h1, h2⟩ | ⟨h1, h2⟩
  · refine ⟨fun _ => h1, fun _ => ?_⟩
    obtain ⟨⟨M, m1, m2, m3⟩, _⟩ := h2
    have q1 := hmx.2 M (m1.mono fun e he => ⟨trivial, (m1.ok e he).2.1, (hf _ _).2 (m1.ok e he).2.2⟩)
    obtain ⟨⟨M', k1, k2⟩, _⟩ := hmx
    have q2 := len_of_sub (b := List.range s.length) k1.one fun x hx => by
      obtain ⟨e, he, rfl⟩ := List.mem_map.1 hx
      exact List.mem_range.2 (k1.ok e he).2.2.1
    rw [List.length_map, List.length_range] at q2
    omega
  · refine ⟨fun hn => ?_, fun hh => by omega⟩
    obtain ⟨⟨M', k1, k2⟩, _⟩ := hmx
    exact absurd (by omega) (h2 M' (k1.mono fun e he => ⟨(k1.ok e he).2.2.1, (k1.ok e he).2.1, (hf _ _).1 (k1.ok e he).2.2⟩))
end
end Go.Proofs.Ytpklcjbdmikbdaa
namespace Go.Proofs.Ytpklcjbdmikbdaa
open Go.RowKit

set_option maxRecDepth 100000 in
set_option maxHeartbeats 4000000 in
theorem ground_any {J : Nat} {As Ah : Option Addr} {cs ch : Nat} {s h : List Int} {lo hi : Int} (w : World) (j : JobW w J As Ah cs ch s h lo hi) (hs : Sizes s) (hh : Sizes h) (l1 : -1000000 ≤ lo) (l2 : lo ≤ 1000000) (x k : Nat) (hx : x < s.length) (hk : k < h.length) :
    Calls Try.prog 70 #[.pointer (some ⟨J, 0, none⟩), .int .i64 (x : Int), .int .i64 (k : Int)] w fun e w' => e = .returned (.int .i64 (grd s h lo hi x k)) ∧ Below w.heap.size w w' := by
  have hc := j.blk.cell
  have hJ := j.blk.lt
  obtain ⟨gs, rfl, hgs, hsc⟩ := j.rs.at_ hx
  obtain ⟨gh, rfl, hgh, hhc⟩ := j.rh.at_ hk
  have b1 := hs.at_ x
  have b2 := hh.at_ k
  have HG : Hid (grd s h lo hi x k = if h.getD k 0 - s.getD x 0 > hi then 1099511627776 else max 0 (lo - (h.getD k 0 - s.getD x 0))) := rfl
  have hkj := j.blk
  have hxi : (x : Int) < (s.length : Int) := by omega
  have hki : (k : Int) < (h.length : Int) := by omega
  clear hs hh j
  generalize grd s h lo hi x k = gv at *
  generalize h.getD k 0 = hv at *
  generalize s.getD x 0 = sv at *
  have hx := later_cell (w := w)
  go_enter Try.func70, Try.ntmps70
  go_wp2_with fail
  refine wp_region_later (by kernel_rfl) (by kernel_rfl) ?_
  repeat (go_big_quiet_step (fail))
  refine wpQuiet_nil ?_
  rintro w2 ⟨⟨_, hb2⟩, rfl⟩
  have kJ := hkj.later hb2
  clear hx hc hsc hhc hJ hkj
  have hc := kJ.cell
  have hJ := kJ.lt
  by_cases hgt : hv - sv > hi
  · have hd : decide (hv - sv > hi) = true := decide_eq_true hgt
    have hd' : decide (hi < hv - sv) = true := decide_eq_true hgt
    have HR : Hid (gv = 1099511627776) := by show _ = _; rw [HG.out, if_pos hgt]
    clear HG
    go_wp2_with fail
    go_ret
    exact ⟨by rw [HR.out]; rfl, hb2⟩
  · have hd : decide (hv - sv > hi) = false := decide_eq_false hgt
    have hd' : decide (hi < hv - sv) = false := decide_eq_false hgt
    obtain ⟨m, hm⟩ : ∃ m, max 0 (lo - (hv - sv)) = m := ⟨_, rfl⟩
    have HR : Hid (gv = m) := by show _ = _; rw [HG.out, if_neg hgt, hm]
    clear HG
    go_wp2_with fail
    go_ret
    exact ⟨by rw [HR.out]; rfl, hb2⟩
end Go.Proofs.Ytpklcjbdmikbdaa
namespace Go.Proofs.Ytpklcjbdmikbdaa
open Go.RowKit

/-- The row of the least costs, k holes done. -/
def dpRow (c : Nat → Nat → Int) (n k : Nat) : List Int := (List.range (n + 1)).map fun i => dpv c i k
/-- The same, while hole k is taken up: from i + 1 on. -/
def dpMid (c : Nat → Nat → Int) (n k i : Nat) : List Int := (List.range (n + 1)).map fun j => if i < j then dpv c j (k + 1) else dpv c j k
/-- The row at the start. -/
def dpIni (n i : Nat) : List Int := (List.range (n + 1)).map fun j => if 1 ≤ j ∧ j ≤ i then 1099511627776 else 0
section
variable {c : Nat → Nat → Int} {n k i : Nat}
theorem range_get {α : Type} (f : Nat → α) (n i : Nat) (h : i < n) : ((List.range n).map f)[i]? = some (f i) := by
  rw [List.getElem?_map, List.getElem?_range h]
  rfl
theorem dpv_zero (c : Nat → Nat → Int) (k : Nat) : dpv c 0 k = 0 := by cases k <;> rfl
theorem dpMid_top : dpMid c n k n = dpRow c n k := by
  unfold dpMid dpRow
  refine List.map_congr_left fun j hj => ?_
  rw [List.mem_range] at hj
  rw [if_neg (by omega)]
theorem dpMid_low : dpMid c n k 0 = dpRow c n (k + 1) := by
  unfold dpMid dpRow
  refine List.map_congr_left fun j _ => ?_
  cases j with
  | zero => rw [if_neg (by omega), dpv_zero, dpv_zero]
  | succ j => rw [if_pos (by omega)]
theorem dpMid_at (h : i + 1 ≤ n) : (dpMid c n k (i + 1))[i + 1]? = some (dpv c (i + 1) k) ∧ (dpMid c n k (i + 1))[i]? = some (dpv c i k) := by
  unfold dpMid
  rw [range_get _ _ _ (by omega), range_get _ _ _ (by omega), if_neg (by omega), if_neg (by omega)]
  exact ⟨rfl, rfl⟩
theorem dpMid_set (h : i + 1 ≤ n) : (dpMid c n k (i + 1)).set (i + 1) (min (dpv c (i + 1) k) (dpv c i k + c i k)) = dpMid c n k i := by
  unfold dpMid
  refine List.ext_getElem? fun j => ?_
  rw [List.getElem?_set]
  by_cases hj : j < n + 1
  · rw [range_get _ _ _ hj, range_get _ _ _ hj]
    split
    · rename_i e
      subst e
      rw [if_pos (by simpa using hj), if_pos (by omega), dpv]
    · rename_i e
      congr 1
      by_cases h2 : i < j
      · rw [if_pos h2, if_pos (by omega)]
      · rw [if_neg h2, if_neg (by omega)]
  · rw [if_neg (by omega), List.getElem?_eq_none (by simp; omega), List.getElem?_eq_none (by simp; omega)]
theorem dpIni_zero : List.replicate (n + 1) 0 = dpIni n 0 := by
  unfold dpIni
  refine List.ext_getElem? fun j => ?_
  by_cases hj : j < n + 1
  · rw [List.getElem?_replicate, if_pos hj, range_get _ _ _ hj, if_neg (by omega)]
  · rw [List.getElem?_eq_none (by simp; omega), List.getElem?_eq_none (by simp; omega)]
theorem dpIni_at (h : i + 1 ≤ n) : (dpIni n i)[i + 1]? = some 0 := by
  unfold dpIni
  rw [range_get _ _ _ (by omega), if_neg (by omega)]
theorem dpIni_set (h : i + 1 ≤ n) : (dpIni n i).set (i + 1) 1099511627776 = dpIni n (i + 1) := by
  unfold dpIni
  refine List.ext_getElem? fun j => ?_
  rw [List.getElem?_set]
  by_cases hj : j < n + 1
  · rw [range_get _ _ _ hj, range_get _ _ _ hj]
    split
    · rename_i e
      subst e
      rw [if_pos (by simpa using hj), if_pos (by omega)]
    · rename_i e
      congr 1
      by_cases h2 : 1 ≤ j ∧ j ≤ i
      · rw [if_pos h2, if_pos (by omega)]
      · rw [if_neg h2, if_neg (by omega)]
  · rw [if_neg (by omega), List.getElem?_eq_none (by simp; omega), List.getElem?_eq_none (by simp; omega)]
theorem dpIni_top : dpIni n n = dpRow c n 0 := by
  unfold dpIni dpRow
  refine List.map_congr_left fun j hj => ?_
  rw [List.mem_range] at hj
  cases j with
  | zero => rw [if_neg (by omega)]; rfl
  | succ j => rw [if_pos (by omega)]; rfl
theorem dpRow_top : (dpRow c n k)[n]? = some (dpv c n k) := by unfold dpRow; rw [range_get _ _ _ (by omega)]
theorem dpv_le (hc : ∀ i k, 0 ≤ c i k) : 0 ≤ dpv c i k ∧ dpv c i k ≤ 1099511627776 := by
  induction k generalizing i with
  | zero => cases i <;> simp [dpv]
  | succ k ih =>
    cases i with
    | zero => simp [dpv]
    | succ i =>
      have h1 := ih (i := i + 1)
      have h2 := ih (i := i)
      have h3 := hc i k
      simp only [dpv]
      omega
end
theorem grd_bound {s h : List Int} {lo hi : Int} (hs : Sizes s) (hh : Sizes h) (l1 : -1000000 ≤ lo) (l2 : lo ≤ 1000000) (x k : Nat) : 0 ≤ grd s h lo hi x k ∧ grd s h lo hi x k ≤ 1099511627776 := by
  have b1 := hs.at_ x
  have b2 := hh.at_ k
  unfold grd gcost
  split <;> omega
theorem gcost_bound {s h : List Int} {lo : Int} (hs : Sizes s) (hh : Sizes h) (l2 : lo ≤ 1000000) (x k : Nat) : gcost s h lo x k ≤ 4000000 := by
  have b1 := hs.at_ x
  have b2 := hh.at_ k
  unfold gcost
  omega
/-- The costs of shafts and holes that are numbered anew. -/
def gsub2 (s h : List Int) (lo hi : Int) (a b : List Nat) (i k : Nat) : Int := grd s h lo hi (a.getD i 0) (b.getD k 0)
set_option maxRecDepth 100000 in
set_option maxHeartbeats 16000000 in
theorem least_any {J : Nat} {As Ah : Option Addr} {cs ch : Nat} {s h : List Int} {lo hi : Int} (w : World) (j : JobW w J As Ah cs ch s h lo hi) (hs : Sizes s) (hh : Sizes h) (l1 : -1000000 ≤ lo) (l2 : lo ≤ 1000000) (a b : List Nat) (n m : Nat) (hn : n = a.length) (hm : m = b.length) (A B : Option Addr) (ca cb : Nat)
    (rA : RowQ w A n (ofN a)) (rB : RowQ w B m (ofN b)) (ha : ∀ x ∈ a, x < s.length) (hb : ∀ k ∈ b, k < h.length) (la : n ≤ 64) (lb : m ≤ 64) :
    Calls Try.prog 68 #[.pointer (some ⟨J, 0, none⟩), .slice A n ca, .slice B m cb] w fun e w' => e = .returned (.int .i64 (dpv (gsub2 s h lo hi a b) n m)) ∧ Below w.heap.size w w' := by
  have hmk : ∀ w, (Instr.makeSlice 23 (.int .i64 ((n : Int) + 1)) (.int .i64 ((n : Int) + 1))).run Try.prog w = .ok (.slice (some ⟨w.heap.size, 0, none⟩) (n + 1) (n + 1)) (w.alloc (.cells (rowc (List.replicate (n + 1) 0)) 3)) := fun w => by
    have := make_ints (n + 1) (by omega) w
    rwa [show ((n + 1 : Nat) : Int) = (n : Int) + 1 from by omega] at this
  have HS := Lib.hid hs
  have HH := Lib.hid hh
  have HA := Lib.hid ha
  have HB := Lib.hid hb
  have HC0 := Lib.hid fun i k => grd_bound (hi := hi) hs hh l1 l2 (a.getD i 0) (b.getD k 0)
  have HDP := Lib.hid fun i k => dpv_le (c := gsub2 s h lo hi a b) (i := i) (k := k) fun i k => (HC0.out i k).1
  have HGS : Hid (∀ i k, gsub2 s h lo hi a b i k = grd s h lo hi (a.getD i 0) (b.getD k 0)) := fun i k => rfl
  generalize gsub2 s h lo hi a b = c at *
  have HN := Lib.hid hn
  have HM := Lib.hid hm
  clear hs hh ha hb hn hm
  go_enter Try.func68, Try.ntmps68
  go_upto_region 2 with fail
  have hP0 : RowB (w.alloc (.cells (rowc (List.replicate (n + 1) 0)) 3)) w.heap.size (dpIni n 0) := by
    have e := dpIni_zero (n := n)
    rw [← e]
    exact RowB.of (Blk.new w 3 _)
  have hb0 : Below w.heap.size w (w.alloc (.cells (rowc (List.replicate (n + 1) 0)) 3)) := (Below.refl _ _).alloc (Nat.le_refl _) _
  clear hmk
  revert hP0 hb0
  generalize w.alloc (.cells (rowc (List.replicate (n + 1) 0)) 3) = w1
  generalize hPe : w.heap.size = P
  intro hP0 hb0
  have HPe := Lib.hid hPe
  clear hPe
  have HB0 : Hid (∀ {V : World}, Only (fun x => x = P) w1 V → Below w.heap.size w V) := fun h => by
    have h0 : Below w.heap.size w w1 := by rw [HPe.out]; exact hb0
    exact h0.trans (h.to_below h0.size fun x hx => by rw [HPe.out]; omega)
  clear hb0
  have hni : (n : Int) + 1 ≤ 65 := by omega
  go_wp2_with fail
  go_loopw [8, 18] (fun _ i wr => ∃ k : Nat, k ≤ n ∧ i = .int .i64 k ∧ RowB wr P (dpIni n k) ∧ Only (fun x => x = P) w1 wr) (fun _ i _ => n - (RowKit.intOf i).toNat)
  case atStart => exact ⟨0, Nat.zero_le _, rfl, hP0, Only.refl _ _⟩
  case round =>
    clear hP0
    obtain ⟨k, hk, rfl, hP, hon⟩ := hrel
    by_cases hlt : k < n
    · have hd : decide ((k : Int) < (n : Int)) = true := decide_eq_true (by omega)
      have hki : (k : Int) + 1 < (n : Int) + 1 := by omega
      have hc := hP.at_ (dpIni_at (n := n) (i := k) (by omega))
      have hf := hP.frozen (k + 1)
      have hl := hP.lt
      have HP2 : Hid (RowB (wr.setCell ⟨P, k + 1, none⟩ (.int .i64 1099511627776)) P (dpIni n (k + 1))) := by
        have := hP.set_ (k + 1) 1099511627776
        rwa [dpIni_set (by omega)] at this
      have HO2 := Lib.hid (hon.setCell (p := ⟨P, k + 1, none⟩) (.inl rfl) (.int .i64 1099511627776))
      clear hP hon
      go_wp2_with fail
      go_roundw
      case rel => exact ⟨k + 1, by omega, by go_num, HP2.out, HO2.out⟩
      case measure => simp [RowKit.intOf]; omega
    · obtain rfl : k = n := by omega
      have hd : decide ((k : Int) < (k : Int)) = false := decide_eq_false (by omega)
      rw [dpIni_top (c := c)] at hP
      go_wp2_with fail
      go_loopw [10, 11, 28] (fun _ _ i wr => ∃ q : Nat, q ≤ m ∧ i = .int .i64 q ∧ RowB wr P (dpRow c k q) ∧ Only (fun x => x = P) w1 wr) (fun _ _ i _ => m - (RowKit.intOf i).toNat)
      case atStart => exact ⟨0, Nat.zero_le _, rfl, hP, hon⟩
      case round =>
        clear hP hon
        obtain ⟨q, hq, rfl, hP, hon⟩ := hrel
        by_cases hlt2 : q < m
        · have hd2 : decide ((q : Int) < (m : Int)) = true := decide_eq_true (by omega)
          have hqi : (q : Int) < (m : Int) := by omega
          have hbq := HB0.out hon
          obtain ⟨gB, qB, hBe, hgB, hcB⟩ := (rB.later hbq).at_ hlt2
          obtain ⟨y, hy⟩ : ∃ y, b[q]? = some y := ⟨_, List.getElem?_eq_getElem (by rw [← HM.out]; exact hlt2)⟩
          rw [ofN_at hy] at hcB
          have HY := Lib.hid hy
          have hyh : y < h.length := HB.out y (List.mem_of_getElem? hy)
          subst hBe
          rw [← dpMid_top] at hP
          clear hy hbq
          go_wp2_with fail
          clear hcB
          go_loopw [11] (fun i wr => ∃ (r : Nat) (v : Int), r ≤ k ∧ i = .int .i64 v ∧ v = (r : Int) - 1 ∧ RowB wr P (dpMid c k q r) ∧ Only (fun x => x = P) w1 wr) (fun i _ => (RowKit.intOf i + 1).toNat)
          case atStart => exact ⟨k, _, Nat.le_refl _, rfl, rfl, hP, hon⟩
          case round =>
            clear hP hon
            obtain ⟨r, v, hr, rfl, hv, hP, hon⟩ := hrel
            cases r with
            | zero =>
              obtain rfl : v = -1 := by omega
              rw [dpMid_low] at hP
              clear hv
              go_wp2_with fail
              go_roundw
              case rel => exact ⟨q + 1, by omega, by go_num, hP, hon⟩
              case measure => simp [RowKit.intOf]; omega
            | succ r =>
              obtain rfl : v = (r : Int) := by omega
              have hrk : r < k := by omega
              have hd3 : decide ((r : Int) ≥ 0) = true := decide_eq_true (by omega)
              have hd4 : decide (0 ≤ (r : Int)) = true := decide_eq_true (by omega)
              have hri : (r : Int) < (k : Int) := by omega
              have hri1 : (r : Int) + 1 < (k : Int) + 1 := by omega
              have hbr := HB0.out hon
              obtain ⟨gA, qA, hAe, hgA, hcA⟩ := (rA.later hbr).at_ hrk
              obtain ⟨x, hx⟩ : ∃ x, a[r]? = some x := ⟨_, List.getElem?_eq_getElem (by rw [← HN.out]; exact hrk)⟩
              rw [ofN_at hx] at hcA
              have hxs : x < s.length := HA.out x (List.mem_of_getElem? hx)
              obtain ⟨e1, e2⟩ := dpMid_at (c := c) (n := k) (k := q) (i := r) (by omega)
              have E1 := Lib.hid e1
              have c1 := hP.at_ e1
              have c2 := hP.at_ e2
              have lP := hP.lt
              have jr := j.later hbr
              have b1 := HDP.out (r + 1) q
              have b2 := HDP.out r q
              have b3 := HC0.out r q
              have hgv : c r q = grd s h lo hi x y := by
                rw [HGS.out, List.getD_eq_getElem?_getD, hx, List.getD_eq_getElem?_getD, HY.out]
                rfl
              have HMS : Hid (dpMid c k q r = (dpMid c k q (r + 1)).set (r + 1) (min (dpv c (r + 1) q) (dpv c r q + c r q))) := (dpMid_set (by omega)).symm
              rw [← HGS.out, hgv] at b3
              rw [hgv] at HMS
              have HG : Hid (∀ z : Later wr, Hid (Calls Try.prog 70 #[.pointer (some ⟨J, 0, none⟩), .int .i64 (x : Int), .int .i64 (y : Int)] z.val fun e w' => e = .returned (.int .i64 (grd s h lo hi x y)) ∧ ∃ u : Later wr, w' = u.val)) := fun z =>
                later_call (ground_any z.val (jr.later z.property) HS.out HH.out l1 l2 x y hxs hyh)
              generalize grd s h lo hi x y = gv at *
              generalize dpv c (r + 1) q = v1 at *
              generalize dpv c r q = v2 at *
              obtain ⟨mv, hmv⟩ : ∃ mv, min v1 (v2 + gv) = mv := ⟨_, rfl⟩
              rw [hmv] at HMS
              subst hAe
              have hxl := later_cell (w := wr)
              clear hx e1 e2 hgv jr hv
              go_wp2_with fail
              refine wp_region_later_tail 22 (by kernel_rfl) (by kernel_rfl) ?_
              simp only [List.take_succ_cons, List.take_zero, List.drop_succ_cons, List.drop_zero]
              repeat (go_big_quiet_step ((go_at_call 70; exact (HG.out _).out)))
              refine wpQuiet_nil ?_
              rintro w3 ⟨⟨_, hb3⟩, rfl⟩
              have hP3 := hP.later hb3
              have hon3 := hon.below hb3
              have cP := hP3.at_ E1.out
              have fP := hP3.frozen (r + 1)
              have lP3 := hP3.lt
              have HP4 : Hid (RowB (w3.setCell ⟨P, r + 1, none⟩ (.int .i64 mv)) P (dpMid c k q r)) := by
                show RowB _ _ _
                rw [HMS.out]
                exact hP3.set_ (r + 1) mv
              have HO4 := Lib.hid (hon3.setCell (p := ⟨P, r + 1, none⟩) (.inl rfl) (.int .i64 mv))
              clear hxl hcA c1 c2 lP hP hon hP3 hon3 HG HMS
              go_wp2_with fail
              go_roundw
              case rel => exact ⟨r, (r : Int) - 1, by omega, by go_num, rfl, HP4.out, HO4.out⟩
              case measure => simp [RowKit.intOf] <;> omega
        · obtain rfl : q = m := by omega
          have hd2 : decide ((q : Int) < (q : Int)) = false := decide_eq_false (by omega)
          have cP := hP.at_ (dpRow_top (c := c) (n := k) (k := q))
          have lP := hP.lt
          have HBW := Lib.hid (HB0.out hon)
          have bz := HDP.out k q
          obtain ⟨vz, hvz⟩ : ∃ v, v = dpv c k q := ⟨_, rfl⟩
          rw [← hvz] at cP bz
          have HVZ := Lib.hid hvz
          clear hvz
          have hmz : min 1099511627776 vz = vz := by omega
          clear hP hon
          go_wp2_with fail
          go_ret
          exact ⟨by rw [← HVZ.out]; rfl, HBW.out⟩
end Go.Proofs.Ytpklcjbdmikbdaa
namespace Go.Proofs.Ytpklcjbdmikbdaa
open Go.RowKit

open Classical in
/-- Where an integer stands first; -1 if nowhere. -/
noncomputable def idxI (l : List Int) (v : Int) : Int := if v ∈ l then (l.idxOf v : Int) else -1
theorem idxI_at {l : List Int} {v : Int} {k : Nat} (h : l[k]? = some v) (hf : ∀ j, j < k → l[j]? ≠ some v) : idxI l v = (k : Int) := by
  have hm : v ∈ l := List.mem_of_getElem? h
  unfold idxI
  rw [if_pos hm]
  have h1 := List.idxOf_lt_length_iff.2 hm
  have h2 := List.getElem_idxOf h1
  congr 1
  rcases Nat.lt_trichotomy (l.idxOf v) k with h3 | h3 | h3
  · exact absurd (by rw [List.getElem?_eq_getElem h1, h2]) (hf _ h3)
  · exact h3
  · exfalso
    have : ∀ (l : List Int) (k : Nat), l[k]? = some v → l.idxOf v ≤ k := by
      intro l
      induction l with
      | nil => intro k h; simp at h
      | cons a l ih =>
        intro k h
        rw [List.idxOf_cons]
        by_cases e : a = v
        · simp [e]
        · cases k with
          | zero => simp at h; exact absurd h e
          | succ k =>
            have := ih k (by simpa using h)
            have e2 : (a == v) = false := by simpa using e
            simp [e2]
            omega
    have := this l k h
    omega
theorem idxI_none {l : List Int} {v : Int} (hf : ∀ j, j < l.length → l[j]? ≠ some v) : idxI l v = -1 := by
  unfold idxI
  rw [if_neg]
  intro hm
  obtain ⟨j, hj⟩ := List.getElem?_of_mem hm
  exact hf j (List.getElem?_eq_some_iff.1 hj).1 hj
theorem idxI_mem {l : List Int} {v : Int} : 0 ≤ idxI l v ↔ v ∈ l := by
  unfold idxI
  split
  · rename_i h; exact ⟨fun _ => h, fun _ => by omega⟩
  · rename_i h; exact ⟨fun hh => by omega, fun hh => absurd hh h⟩
set_option maxRecDepth 100000 in
set_option maxHeartbeats 4000000 in
theorem index_any (A : Option Addr) (n c : Nat) (v : Int) (l : List Int) (w : World) (rA : RowQ w A n l) (hn : n ≤ 1000) :
    Calls Try.prog 90 #[.slice A n c, .int .i64 v] w fun e w' => e = .returned (.int .i64 (idxI l v)) ∧ w = w' := by
  have HLA := Lib.hid rA.1
  go_enter Try.func90, Try.ntmps90
  go_wp2_with fail
  go_loopw [5, 8] (fun _ i wr => ∃ k : Nat, k ≤ n ∧ i = .int .i64 k ∧ Hid (∀ j, j < k → l[j]? ≠ some v) ∧ Hid (w = wr)) (fun _ i _ => n - (RowKit.intOf i).toNat)
  case atStart => exact ⟨0, Nat.zero_le _, rfl, fun j h => by omega, rfl⟩
  case round =>
    obtain ⟨k, hk, rfl, hD, hW⟩ := hrel
    obtain rfl := hW.out
    by_cases hlt : k < n
    · have hd : decide ((k : Int) < (n : Int)) = true := decide_eq_true (by omega)
      have hki : (k : Int) < (n : Int) := by omega
      obtain ⟨g, q, hAe, hg, hc⟩ := rA.at_ hlt
      obtain ⟨x, hx⟩ : ∃ x, l[k]? = some x := ⟨_, List.getElem?_eq_getElem (by rw [HLA.out]; exact hlt)⟩
      rw [List.getD_eq_getElem?_getD, hx, Option.getD_some] at hc
      have HX := Lib.hid hx
      subst hAe
      clear hx
      by_cases e : v = x
      · have he : (v == x) = true := by simp [e]
        have HR : Hid (idxI l v = (k : Int)) := idxI_at (by rw [HX.out, e]) hD.out
        clear e
        go_wp2_with fail
        go_ret
        exact ⟨by rw [HR.out]; rfl, rfl⟩
      · have he : (v == x) = false := by simpa using e
        have HD2 : Hid (∀ j, j < k + 1 → l[j]? ≠ some v) := fun j h1 h2 => by
          rcases Nat.lt_or_ge j k with h3 | h3
          · exact hD.out j h3 h2
          · obtain rfl : j = k := by omega
            rw [HX.out] at h2
            exact e (Option.some.inj h2).symm
        clear e hD
        go_wp2_with fail
        go_roundw
        case rel => exact ⟨k + 1, by omega, by go_num, HD2, (by first | exact hW | exact (True.intro : True))⟩
        case measure => simp [RowKit.intOf]; omega
    · obtain rfl : k = n := by omega
      have hd : decide ((k : Int) < (k : Int)) = false := decide_eq_false (by omega)
      have HR : Hid (idxI l v = -1) := idxI_none (by rw [HLA.out]; exact hD.out)
      go_wp2_with fail
      go_ret
      exact ⟨by rw [HR.out]; rfl, rfl⟩
set_option maxRecDepth 100000 in
set_option maxHeartbeats 4000000 in
theorem contains_any (A : Option Addr) (n c : Nat) (v : Int) (l : List Int) (w : World) (rA : RowQ w A n l) (hn : n ≤ 1000) (b : Bool) (hb : b = true ↔ v ∈ l) :
    Calls Try.prog 71 #[.slice A n c, .int .i64 v] w fun e w' => e = .returned (.bool b) ∧ w = w' := by
  have HI := Lib.hid (index_any A n c v l w rA hn)
  have HM := Lib.hid (idxI_mem (l := l) (v := v))
  obtain ⟨q, hq⟩ : ∃ q, q = idxI l v := ⟨_, rfl⟩
  rw [← hq] at HI HM
  have hd : decide (q ≥ 0) = b := by
    rw [Bool.eq_iff_iff, hb, decide_eq_true_eq]
    exact HM.out
  have hd' : decide (0 ≤ q) = b := hd
  clear hq HM hb
  cases b with
  | true =>
    go_enter Try.func71, Try.ntmps71
    go_wp2_with fail
    refine HI.out.mono ?_
    rintro e w' ⟨rfl, rfl⟩
    go_wp2_with fail
    go_ret
    exact ⟨rfl, rfl⟩
  | false =>
    go_enter Try.func71, Try.ntmps71
    go_wp2_with fail
    refine HI.out.mono ?_
    rintro e w' ⟨rfl, rfl⟩
    go_wp2_with fail
    go_ret
    exact ⟨rfl, rfl⟩
theorem own_cap' {w : World} {base n c : Nat} {A : Option Addr} {l : List Int} (h : w.ownsRow base 3 1 (.slice A n c) n (l.map (Value.int .i64))) : n ≤ c := by
  rcases h.2 with ⟨h1, _⟩ | ⟨g', cap, cur, h1, _, _, h2, _⟩
  · injection h1; omega
  · injection h1; omega
theorem own_far {w : World} {base n c : Nat} {A : Option Addr} {l : List Int} (h : w.ownsRow base 3 1 (.slice A n c) n (l.map (Value.int .i64))) : ∀ p, A = some p → base ≤ p.block ∧ p.block < w.heap.size := fun p e => by
  subst e
  rcases h.2 with ⟨h1, _⟩ | ⟨g', cap, cur, h1, _⟩
  · injection h1 with h1; cases h1
  · injection h1 with h1
    injection h1 with h1
    subst h1
    exact World.ownsRow.lt h _ rfl
/-- What the program's without returns. -/
def FwoR (l : List Int) (L : Nat) (w : World) (e : Ending) (w' : World) : Prop :=
  ∃ A c', e = .returned (.slice A L c') ∧ RowQ w' A L l ∧ L ≤ c' ∧ (∀ p, A = some p → w.heap.size ≤ p.block) ∧ Below w.heap.size w w'
set_option maxRecDepth 100000 in
set_option maxHeartbeats 8000000 in
theorem fwithout_any (A : Option Addr) (n c k L : Nat) (v : Int) (l : List Int) (w : World) (rA : RowQ w A n l) (hc : n ≤ c) (hn : n ≤ 1000) (hk : l[k]? = some v) (hf : ∀ j, j < k → l[j]? ≠ some v) (hL : L = n - 1) :
    Calls Try.prog 69 #[.slice A n c, .int .i64 v] w (FwoR (wout l k) L w) := by
  have hkn : k < n := by have := (List.getElem?_eq_some_iff.1 hk).1; rw [rA.1] at this; exact this
  have HI := Lib.hid (index_any A n c v l w rA hn)
  rw [idxI_at hk hf] at HI
  obtain ⟨g, q, rfl, _, _⟩ := rA.at_ hkn
  have HT := Lib.hid (rA.take (m := k) (by omega)).rowI
  have hki : (k : Int) ≤ (c : Int) := by omega
  have hkc : k ≤ c := by omega
  have hnc : (n : Int) ≤ (c : Int) := by omega
  obtain ⟨j, hj⟩ : ∃ j, j = k + 1 := ⟨_, rfl⟩
  have hwj : IntKind.i64.wrap ((k : Int) + 1) = (j : Int) := by rw [IntKind.wrap_i64]; omega
  have hjn : (j : Int) ≤ (n : Int) := by omega
  have hj0 : (0 : Int) ≤ (j : Int) := by omega
  obtain ⟨AS, hASE⟩ : ∃ AS, AS = (if c = j then some (⟨g, q, none⟩ : Addr) else some ⟨g, q + j, none⟩) := ⟨_, rfl⟩
  have HASE := Lib.hid hASE
  have HD : Hid (RowI w AS (n - j) (l.drop (k + 1))) := by
    show RowI _ _ _ _
    rw [hASE, hj]
    split
    · have h1 : l.drop (k + 1) = [] := List.drop_eq_nil_of_le (by rw [rA.1]; omega)
      have h2 : n - (k + 1) = 0 := by omega
      rw [h1, h2]
      exact RowQ.none.rowI
    · exact (rA.drop (m := k + 1)).rowI
  have HJ := Lib.hid hj
  have HLL := Lib.hid hL
  have HK := Lib.hid hk
  have HLN := Lib.hid rA.1
  clear hASE hj hk hf rA hL
  go_enter Try.func69, Try.ntmps69
  go_wp2_with fail
  refine HI.out.mono ?_
  rintro e w' ⟨rfl, rfl⟩
  clear HI
  go_wp2_with fail
  refine region_held_var (S := fun V => Below w.heap.size w V) (by kernel_rfl) (Below.refl _ _).drew (fun V0 hV0 hb0 => ?_)
  clear hV0
  refine wpAnyH_take (i := 0) (v := ?_) rfl (by kernel_rfl) (by kernel_rfl) (by kernel_rfl) (fun _ _ _ h => h) (Or.inl ⟨by rfl, ?hy⟩) (by assumption) ?_
  case hy => (intro w hSw; clear hSw; go_simp; try with_reducible rfl)
  refine wpAnyH_take (i := 1) (v := ?_) rfl (by kernel_rfl) (by kernel_rfl) (by kernel_rfl) (fun _ _ _ h => h) (Or.inl ⟨by rfl, ?hy⟩) (by assumption) ?_
  case hy => (intro w hSw; clear hSw; go_simp; try with_reducible rfl)
  refine wpAnyH_take (i := 2) (v := ?_) rfl (by kernel_rfl) (by kernel_rfl) (by kernel_rfl) (fun _ _ _ h => h) (Or.inl ⟨by rfl, ?hy⟩) (by assumption) ?_
  case hy => (intro w hSw; clear hSw; go_simp; try with_reducible rfl)
  refine wpAnyH_take (i := 3) (v := ?_) rfl (by kernel_rfl) (by kernel_rfl) (by kernel_rfl) (fun _ _ _ h => h) (Or.inl ⟨by rfl, ?hy⟩) (by assumption) ?_
  case hy => (intro w hSw; clear hSw; go_simp; try with_reducible rfl)
  refine wpAnyH_take (i := 4) (v := ?_) rfl (by kernel_rfl) (by kernel_rfl) (by kernel_rfl) (fun _ _ _ h => h) (Or.inl ⟨by rfl, ?hy⟩) (by assumption) ?_
  case hy => (intro w hSw; clear hSw; go_simp; try with_reducible rfl)
  refine wpAnyH_take (i := 5) (v := ?_) rfl (by kernel_rfl) (by kernel_rfl) (by kernel_rfl) (fun _ _ _ h => h) (Or.inl ⟨by rfl, ?hy⟩) (by assumption) ?_
  case hy => (intro w hSw; clear hSw; go_simp; try with_reducible rfl)
  simp only [Act.put, List.getElem_toArray, List.getElem_cons_succ, List.getElem_cons_zero, List.setIfInBounds_toArray, List.set_cons_succ, List.set_cons_zero]
  refine wpAnyH_take (i := 6) (v := .slice AS (n - j) (c - j)) rfl (by kernel_rfl) (by kernel_rfl) (by kernel_rfl) (fun _ _ _ h => h) (Or.inl ⟨by rfl, ?hy⟩) (by assumption) ?_
  case hy => (intro w hSw; clear hSw; go_simp; rw [HASE.out])
  simp only [Act.put, List.getElem_toArray, List.getElem_cons_succ, List.getElem_cons_zero, List.setIfInBounds_toArray, List.set_cons_succ, List.set_cons_zero]
  have hmd : Below w.heap.size w (V0.alloc (.cells #[.slice (some ⟨g, q, none⟩) k c, .slice AS (n - j) (c - j)] 23)) := hb0.trans (((Below.refl _ _).alloc (Nat.le_refl _) _).mono hb0.size)
  have kG := Blk.new V0 23 #[.slice (some ⟨g, q, none⟩) k c, .slice AS (n - j) (c - j)]
  refine wpAnyH_ready (rs := [7]) (by kernel_rfl) (by simp) (AllReadyH.cons rfl (fun K hK => ?_) AllReadyH.nil)
  go_simp
  refine hK.out _ _ hmd (fun _ => ?_)
  clear hK K
  have HCC := Lib.hid (concat_any (some ⟨g, q, none⟩) AS k c (n - j) (c - j) V0.heap.size (l.take k) (l.drop (k + 1)) _ kG (HT.out.later hmd) (HD.out.later hmd) (by omega) (by omega))
  refine wpAnyH_ready (rs := [8]) (by kernel_rfl) (by simp) (AllReadyH.cons rfl (fun K hK => ?_) AllReadyH.nil)
  go_simp
  refine HCC.out.mono ?_
  rintro e V2 ⟨v2, rfl, hown, hb2⟩
  have hlen : (l.take k).length + (l.drop (k + 1)).length = L := by
    rw [List.length_take, List.length_drop, HLL.out, HLN.out]
    omega
  have hown2 : V2.ownsRow (V0.alloc (.cells #[.slice (some ⟨g, q, none⟩) k c, .slice AS (n - j) (c - j)] 23)).heap.size 3 1 v2 L ((wout l k).map (Value.int .i64)) := by
    rw [← hlen]
    exact hown
  obtain ⟨A9, c9, rfl⟩ := own_slice hown2
  have hr := Lib.hid (own_rowH hown2).rowQ
  have hcp := Lib.hid (own_cap' hown2)
  have hfr := Lib.hid (fun p e => Nat.le_trans hmd.size (own_far hown2 p e).1)
  have hb3 := hmd.trans (hb2.mono hmd.size)
  refine hK.out _ _ hb3 (fun _ => ?_)
  clear hK K hown hown2 hmd hb2 kG HCC
  refine wpAnyH_take (i := 9) (v := ?_) rfl (by kernel_rfl) (by kernel_rfl) (by kernel_rfl) (fun _ _ _ h => h) (Or.inl ⟨by rfl, ?hy⟩) (by assumption) ?_
  case hy => (intro w hSw; clear hSw; go_simp; try with_reducible rfl)
  refine wpAnyH_done (by kernel_rfl) ?_ _
  go_wp2_with fail
  go_ret
  exact ⟨A9, c9, rfl, hr.out, hcp.out, hfr.out, hb3⟩
end Go.Proofs.Ytpklcjbdmikbdaa
namespace Go.Proofs.Ytpklcjbdmikbdaa
open Go.RowKit

theorem srt_of {s o : List Int} (h : Order s o) : ∃ a : List Nat, o = ofN a ∧ SrtI s a ∧ a.length = s.length ∧ ∀ x, x ∈ a ↔ x < s.length := by
  have e : o = ofN (o.map Int.toNat) := by
    unfold ofN
    refine List.ext_getElem? fun i => ?_
    rw [List.getElem?_map, List.getElem?_map]
    cases hv : o[i]? with
    | none => rfl
    | some v =>
      have := (h.at_ i v hv).1
      simp
      omega
  have hmem : ∀ x, x ∈ o.map Int.toNat ↔ x < s.length := fun x => by
    constructor
    · intro hx
      obtain ⟨v, hv, rfl⟩ := List.mem_map.1 hx
      obtain ⟨i, hi⟩ := List.getElem?_of_mem hv
      have := h.at_ i v hi
      omega
    · intro hx
      exact List.mem_map.2 ⟨(x : Int), h.all x hx, by simp⟩
  refine ⟨o.map Int.toNat, e, ⟨?_, ?_, fun x hx => (hmem x).1 hx⟩, by rw [List.length_map, h.len], hmem⟩
  · refine nodup_of_inj h.nodup fun x hx y hy exy => ?_
    obtain ⟨i, hi⟩ := List.getElem?_of_mem hx
    obtain ⟨k, hk⟩ := List.getElem?_of_mem hy
    have := (h.at_ i x hi).1
    have := (h.at_ k y hk).1
    omega
  · rw [List.pairwise_map]
    exact h.up
theorem SrtI.wout {s : List Int} {a : List Nat} (h : SrtI s a) (k : Nat) : SrtI s (wout a k) :=
  ⟨(wout_sub a k).nodup h.nd, h.up.sublist (wout_sub a k), fun x hx => h.lt x ((wout_sub a k).subset hx)⟩
/-- The place of a number in a row of numbers. -/
theorem place {a : List Nat} (hn : a.Nodup) {x : Nat} (h : x ∈ a) : ∃ k : Nat, a[k]? = some x ∧ (ofN a)[k]? = some (x : Int) ∧ ∀ j : Nat, j < k → (ofN a)[j]? ≠ some (x : Int) := by
  obtain ⟨k, hk⟩ := List.getElem?_of_mem h
  refine ⟨k, hk, by unfold ofN; rw [List.getElem?_map, hk]; rfl, fun j hj e => ?_⟩
  unfold ofN at e
  rw [List.getElem?_map] at e
  cases hv : a[j]? with
  | none => rw [hv] at e; cases e
  | some v =>
    rw [hv] at e
    simp only [Option.map_some] at e
    have e2 : v = x := by injection e with e; omega
    rw [e2] at hv
    have := (List.getElem?_inj (List.getElem?_eq_some_iff.1 hv).1 hn).1 (hv.trans hk.symm)
    omega
/-- Ahead of shaft i: the shafts and the holes that are left, what may still be ground off, the holes so far. -/
structure GrI (s h : List Int) (lo hi tot : Int) (i : Nat) (a b : List Nat) (left : Int) (tt : List Int) : Prop where
  sa : SrtI s a
  sb : SrtI h b
  ma : ∀ x, x ∈ a ↔ i ≤ x ∧ x < s.length
  la : a.length = s.length - i
  gt : GTo (fitU s h hi) (gcost s h lo) h.length s.length tot i (· ∈ b) left tt
section
variable {s h : List Int} {lo hi tot left : Int} {i q k kk : Nat} {a b : List Nat} {tt : List Int}
theorem GrI.first {a b : List Nat} (sa : SrtI s a) (sb : SrtI h b) (ma : ∀ x, x ∈ a ↔ x < s.length) (mb : ∀ x, x ∈ b ↔ x < h.length) (la : a.length = s.length) : GrI s h lo hi tot 0 a b tot [] :=
  ⟨sa, sb, fun x => by rw [ma]; omega, by rw [la]; rfl, .first _ mb⟩
theorem GrI.left_nn (h0 : Low (fitU s h hi) (gcost s h lo) (· < s.length) (· < h.length) s.length tot) (hg : ∀ x k, gcost s h lo x k ≤ 4000000) (p : GrI s h lo hi tot i a b left tt) : 0 ≤ left ∧ left ≤ (s.length - i : Nat) * 4000000 :=
  (p.gt.low h0).bound fun x k => ⟨gcost_pos s h lo x k, hg x k⟩
/-- The first holes do not serve. -/
def GNo (s h : List Int) (lo hi : Int) (i : Nat) (b : List Nat) (left : Int) (q : Nat) : Prop := ∀ k, k < q → ¬ CandG (fitU s h hi) (gcost s h lo) s.length i (· ∈ b) left k
theorem GNo.zero : GNo s h lo hi i b left 0 := fun k hk => by omega
theorem GNo.next (g : GNo s h lo hi i b left q) (hc : ¬ CandG (fitU s h hi) (gcost s h lo) s.length i (· ∈ b) left q) : GNo s h lo hi i b left (q + 1) := fun k hk => by
  rcases Nat.lt_or_ge k q with h1 | h1
  · exact g k h1
  · obtain rfl : k = q := by omega
    exact hc
theorem GrI.taken (p : GrI s h lo hi tot i a b left tt) (hq : q < h.length) : q ∈ b ↔ (q : Int) ∉ tt := by
  rw [p.gt.used q]
  exact ⟨fun h => h.2, fun h => ⟨hq, h⟩⟩
theorem grd_dear (hg : ∀ x k, gcost s h lo x k ≤ 4000000) (hc : grd s h lo hi i q > left) : ¬ CandG (fitU s h hi) (gcost s h lo) s.length i (· ∈ b) left q := by
  rintro ⟨_, h2, h3⟩
  have h4 := (h3.bound fun x k => ⟨gcost_pos s h lo x k, hg x k⟩).1
  have h5 : grd s h lo hi i q = gcost s h lo i q := by
    unfold grd
    rw [if_neg (by have := h2.2.2; omega)]
  omega
theorem GrI.shaft (p : GrI s h lo hi tot i a b left tt) (hi' : i < s.length) : i ∈ a := (p.ma i).2 ⟨Nat.le_refl _, hi'⟩
theorem GrI.less (p : GrI s h lo hi tot i a b left tt) (hk : a[k]? = some i) : (∀ x, x ∈ wout a k ↔ i + 1 ≤ x ∧ x < s.length) ∧ (wout a k).length = s.length - (i + 1) := by
  refine ⟨fun x => ?_, ?_⟩
  · rw [wout_mem p.sa.nd hk, p.ma]
    omega
  · rw [wout_len a (List.getElem?_eq_some_iff.1 hk).1, p.la]
    omega
theorem GrI.cand (p : GrI s h lo hi tot i a b left tt) (hk : a[k]? = some i) (hq : b[kk]? = some q) (hi' : i < s.length) (hl : left < 1099511627776) (hc : grd s h lo hi i q ≤ left) {v : Int} (hv : LeaR (fitU s h hi) (gcost s h lo) (· ∈ wout a k) (· ∈ wout b kk) (wout a k).length v) :
    CandG (fitU s h hi) (gcost s h lo) s.length i (· ∈ b) left q ↔ grd s h lo hi i q + v = left := by
  have hqb := List.mem_of_getElem? hq
  have hF : fitU s h hi i q ∧ grd s h lo hi i q = gcost s h lo i q := by
    unfold grd at hc ⊢
    unfold fitU
    split at hc
    · omega
    · rename_i h1
      rw [if_neg h1]
      exact ⟨⟨hi', p.sb.lt q hqb, by omega⟩, rfl⟩
  obtain ⟨m1, m2⟩ := p.less hk
  rw [m2] at hv
  have hv2 : LeaR (fitU s h hi) (gcost s h lo) (fun x => i + 1 ≤ x ∧ x < s.length) (fun h => h ∈ b ∧ h ≠ q) (s.length - (i + 1)) v := hv.congr fun x g => by rw [m1, wout_mem p.sb.nd hq]
  constructor
  · rintro ⟨_, _, h3⟩
    have := hv2.of_low h3
    omega
  · intro e
    refine ⟨hqb, hF.1, ?_⟩
    have hp := gcost_pos s h lo i q
    have := hv2.low (by omega)
    rwa [show left - gcost s h lo i q = v by omega]
theorem GrI.hit (p : GrI s h lo hi tot i a b left tt) (g : GNo s h lo hi i b left q) (hk : a[k]? = some i) (hq : b[kk]? = some q) (hc : CandG (fitU s h hi) (gcost s h lo) s.length i (· ∈ b) left q) (hgr : grd s h lo hi i q ≤ left) (hl : left < 1099511627776) :
    GrI s h lo hi tot (i + 1) (wout a k) (wout b kk) (left - grd s h lo hi i q) (tt ++ [(q : Int)]) := by
  have e : grd s h lo hi i q = gcost s h lo i q := by
    unfold grd at hgr ⊢
    split at hgr
    · omega
    · rename_i h1
      rw [if_neg h1]
  rw [e]
  exact ⟨p.sa.wout k, p.sb.wout kk, (p.less hk).1, (p.less hk).2, .hit p.gt hc g (fun x => wout_mem p.sb.nd hq x)⟩
theorem GrI.never (p : GrI s h lo hi tot i a b left tt) (h0 : Low (fitU s h hi) (gcost s h lo) (· < s.length) (· < h.length) s.length tot) (hi' : i < s.length) (g : GNo s h lo hi i b left h.length) : False := by
  obtain ⟨k, hk⟩ := (p.gt.low h0).cand hi'
  exact g k (p.sb.lt k hk.1) hk
end
end Go.Proofs.Ytpklcjbdmikbdaa
namespace Go.Proofs.Ytpklcjbdmikbdaa
open Go.RowKit

set_option maxHeartbeats 2000000 in
theorem grind_no (A B : Option Addr) (c d : Nat) (s h : List Int) (lo hi : Int) (w : World) (rA : RowH w A s.length s) (rB : RowH w B h.length h) (hn : s.length ≤ 1000) (hm : h.length ≤ 1000) (hv : piecesB s h lo hi = false) :
    Calls Try.prog 43 #[.slice A s.length c, .slice B h.length d, .agg #[.int .i64 lo, .int .i64 hi]] w fun e w' => e = .returned (.tuple #[.slice none 0 0, .int .i64 0, .int .i64 1]) ∧ Below w.heap.size w w' := by
  have hb0 : Below w.heap.size w (w.alloc (.cells #[.int .i64 lo, .int .i64 hi] 26)) := (Below.refl _ _).alloc (Nat.le_refl _) _
  have kC := Blk.new w 26 #[.int .i64 lo, .int .i64 hi]
  have M := pieces_any A B c d s h lo hi _ (rA.later hb0).rowI (rB.later hb0).rowI (by omega) (by omega)
  rw [hv] at M
  have HM := Lib.hid M
  clear M hv
  go_enter Try.func43, Try.ntmps43
  go_wp2_with fail
  refine HM.out.mono ?_
  rintro e w2 ⟨rfl, hb2⟩
  have hb3 := hb0.trans (hb2.mono hb0.size)
  clear HM hb0 hb2 kC
  go_wp2_with fail
  go_ret3
  exact ⟨rfl, hb3⟩
theorem app_intsV (w : World) {ops : Array Oper} {rest : List Oper} {o : Oper} {a : Act} {Q : Exit → Act → World → Prop} (hgd : o.guard = none) (s x : Operand)
    (ho : o.op = .call { callee := .builtin .append, args := #[s, x], argTypes := #[23, 23] }) (base : Nat) (v : Value) (n : Nat) (xs : List Int) (hs : a.eval s = v) (hown : w.ownsRow base 3 1 v n (xs.map (Value.int .i64)))
    (ao : Option Addr) (m c : Nat) (l : List Int) (hx : a.eval x = .slice ao m c) (hr : RowI w ao m l) (hm : 0 < m) (hn : n + m ≤ 100000) (hbase : base ≤ w.heap.size)
    (h : ∀ g cap w', w'.ownsRow base 3 1 (.slice (some ⟨g, 0, none⟩) (n + m) cap) (n + m) ((xs ++ l).map (Value.int .i64)) → w.grownBy w' v.ownBlock → (v.ownBlock = some g ∨ g = w.heap.size) → wpList Try.prog ops Q rest (a.put o.dst (.slice (some ⟨g, 0, none⟩) (n + m) cap)) w') : wpList Try.prog ops Q (o :: rest) a w := by
  obtain ⟨i0, hi, hz0, hz1, hz2⟩ := info_parts info3
  obtain ⟨ad, e, _, _⟩ := hr.2 hm
  subst e
  refine wpList_append_lies w hgd s x 23 ho base 3 i0 (.int .i64 0) 1 8 Try.underlying23 hi hz0 hz1 hz2 rfl (by decide) v n _ hs hown ad m c (l.map (Value.int .i64)) hx (by rw [List.length_map, hr.1]; omega) (rowI_news hr hm) (ints_one _) hm (by unfold maxLen; omega) (by omega) hbase _ rfl ?_
  intro g cap w' hown' hgr hat _
  exact h g cap w' (by rw [List.map_append]; exact hown') hgr hat
/-- A row outside the blocks that a row of one's own may have written. -/
theorem RowQ.grown {w w' : World} {A : Option Addr} {n : Nat} {l : List Int} {r : Option Nat} (h : RowQ w A n l) (hb : w.grownBy w' r) (hr : ∀ p, 0 < n → A = some p → r ≠ some p.block) : RowQ w' A n l :=
  ⟨h.1, fun hn => by
    obtain ⟨g, q, e, hg, hc⟩ := h.2 hn
    refine ⟨g, q, e, Nat.lt_of_lt_of_le hg hb.size, fun k v hk => ?_⟩
    have hbk := hb.block g hg (fun e2 => hr _ hn e (by rw [← e2]))
    have h0 := hc k v hk
    simp only [World.cell?] at h0 ⊢
    rw [hbk]
    exact h0⟩
/-- What lies in memory ahead of shaft i. -/
structure GrW (w0 : World) (s h : List Int) (lo hi tot : Int) (i : Nat) (a b : List Nat) (left : Int) (tt : List Int) (AL AF : Option Addr) (cl cf : Nat) (vt : Value) (wr : World) : Prop where
  inv : GrI s h lo hi tot i a b left tt
  le : i ≤ s.length
  rl : RowQ wr AL a.length (ofN a)
  lcl : a.length ≤ cl
  rf : RowQ wr AF b.length (ofN b)
  lcf : b.length ≤ cf
  own : wr.ownsRow w0.heap.size 3 1 vt i (tt.map (Value.int .i64))
  fl : ∀ p, 0 < a.length → AL = some p → vt.ownBlock ≠ some p.block
  ff : ∀ p, 0 < b.length → AF = some p → vt.ownBlock ≠ some p.block
  bel : Below w0.heap.size w0 wr
section
variable {w0 wr w' : World} {s h : List Int} {lo hi tot left : Int} {i : Nat} {a b : List Nat} {tt : List Int} {AL AF : Option Addr} {cl cf : Nat} {vt : Value}
theorem GrW.later (p : GrW w0 s h lo hi tot i a b left tt AL AF cl cf vt wr) (hb : Below wr.heap.size wr w') : GrW w0 s h lo hi tot i a b left tt AL AF cl cf vt w' :=
  ⟨p.inv, p.le, p.rl.later hb, p.lcl, p.rf.later hb, p.lcf, own_later p.own hb, p.fl, p.ff, p.bel.trans (hb.mono p.bel.size)⟩
/-- The hole of shaft i is known. -/
theorem GrW.push (p : GrW w0 s h lo hi tot i a b left tt AL AF cl cf vt wr) {v left' : Int} {g cap : Nat} {a' b' : List Nat} {AL' AF' : Option Addr} {cl' cf' : Nat} (hi' : i + 1 ≤ s.length)
    (hown : w'.ownsRow w0.heap.size 3 1 (.slice (some ⟨g, 0, none⟩) (i + 1) cap) (i + 1) ((tt ++ [v]).map (Value.int .i64))) (hgr : wr.grownBy w' vt.ownBlock) (hat : vt.ownBlock = some g ∨ g = wr.heap.size)
    (inv : GrI s h lo hi tot (i + 1) a' b' left' (tt ++ [v])) (rl : RowQ wr AL' a'.length (ofN a')) (lcl : a'.length ≤ cl') (rf : RowQ wr AF' b'.length (ofN b')) (lcf : b'.length ≤ cf')
    (fl : ∀ p, 0 < a'.length → AL' = some p → vt.ownBlock ≠ some p.block) (ff : ∀ p, 0 < b'.length → AF' = some p → vt.ownBlock ≠ some p.block) :
    GrW w0 s h lo hi tot (i + 1) a' b' left' (tt ++ [v]) AL' AF' cl' cf' (.slice (some ⟨g, 0, none⟩) (i + 1) cap) w' := by
  refine ⟨inv, hi', rl.grown hgr fl, lcl, rf.grown hgr ff, lcf, hown, fun q h0 e => ?_, fun q h0 e => ?_, p.bel.grown hgr p.bel.size (fun q hq => (World.ownsRow.lt p.own q hq).1)⟩
  · have h1 := rl.lt h0 e
    have h2 := fl q h0 e
    intro h3
    have h4 : g = q.block := by simpa [Value.ownBlock] using h3
    rcases hat with h5 | h5
    · exact h2 (by rw [h5, h4])
    · omega
  · have h1 := rf.lt h0 e
    have h2 := ff q h0 e
    intro h3
    have h4 : g = q.block := by simpa [Value.ownBlock] using h3
    rcases hat with h5 | h5
    · exact h2 (by rw [h5, h4])
    · omega
theorem GrW.old (p : GrW w0 s h lo hi tot i a b left tt AL AF cl cf vt wr) {q : Addr} (h : wr.heap.size ≤ q.block) : vt.ownBlock ≠ some q.block := fun e => by
  have := (World.ownsRow.lt p.own _ e).2
  omega
end
/-- What grinding returns of valid pieces. -/
def GrindR (s h : List Int) (lo hi : Int) (w : World) (e : Ending) (w' : World) : Prop :=
  (e = .returned (.tuple #[.slice none 0 0, .int .i64 0, .int .i64 6]) ∧ (∀ M, Mat (fitU s h hi) (· < s.length) (· < h.length) M → M.length ≠ s.length) ∧ Below w.heap.size w w') ∨
  (∃ (v : Value) (tt : List Int) (tot left : Int) (B : Nat → Prop), e = .returned (.tuple #[v, .int .i64 tot, .int .i64 0]) ∧ w'.ownsRow w.heap.size 3 1 v s.length (tt.map (Value.int .i64)) ∧ Low (fitU s h hi) (gcost s h lo) (· < s.length) (· < h.length) s.length tot ∧
    GTo (fitU s h hi) (gcost s h lo) h.length s.length tot s.length B left tt ∧ Below w.heap.size w w')
set_option maxRecDepth 100000 in
set_option maxHeartbeats 16000000 in
theorem grind_yes (A B : Option Addr) (c d : Nat) (s h : List Int) (lo hi : Int) (w : World) (rA : RowH w A s.length s) (rB : RowH w B h.length h) (hv : piecesB s h lo hi = true) :
    Calls Try.prog 43 #[.slice A s.length c, .slice B h.length d, .agg #[.int .i64 lo, .int .i64 hi]] w (GrindR s h lo hi w) := by
  obtain ⟨hs, hh, l1, l2, hsp⟩ := piecesB_iff.1 hv
  obtain ⟨sp1, sp2', sp3⟩ := spanB_iff.1 hsp
  have sp2 : lo ≤ 1000000 := by omega
  have hb1 : Below w.heap.size w (w.alloc (.cells #[.int .i64 lo, .int .i64 hi] 26)) := (Below.refl _ _).alloc (Nat.le_refl _) _
  have k1 := Blk.new w 26 #[.int .i64 lo, .int .i64 hi]
  have M := pieces_any A B c d s h lo hi _ (rA.later hb1).rowI (rB.later hb1).rowI (by omega) (by omega)
  rw [hv] at M
  have HM := Lib.hid M
  have HS := Lib.hid hs
  have HH := Lib.hid hh
  clear M hv hs hh hsp
  go_enter Try.func43, Try.ntmps43
  go_wp2_with fail
  refine HM.out.mono ?_
  rintro e w2 ⟨rfl, hb2⟩
  have k2 := k1.later hb2
  have hc2 := k2.cell
  have hl2 := k2.lt
  have hb3 := hb1.trans (hb2.mono hb1.size)
  clear HM hb1 hb2 k1
  go_upto_region 4 with fail
  have k3 := Blk.new w2 87 #[.slice A s.length c, .slice B h.length d, .int .i64 lo, .int .i64 hi]
  have hb4 : Below w2.heap.size w2 (w2.alloc (.cells #[.slice A s.length c, .slice B h.length d, .int .i64 lo, .int .i64 hi] 87)) := (Below.refl _ _).alloc (Nat.le_refl _) _
  have hb5 := hb3.trans (hb4.mono hb3.size)
  have j : JobW _ w2.heap.size A B c d s h lo hi := ⟨k3, rA.later hb5, rB.later hb5⟩
  clear hc2 hl2 k2 k3 hb3 hb4
  revert hb5 j
  generalize w2.alloc (.cells #[.slice A s.length c, .slice B h.length d, .int .i64 lo, .int .i64 hi] 87) = w3
  generalize w2.heap.size = J
  intro hb5 j
  have HR1 := Lib.hid (rising_any A s.length c s w3 j.rs (by omega))
  go_wp2_with fail
  refine HR1.out.mono ?_
  rintro e w4 ⟨Ra, o1, rfl, _, hRa, hop1, hos1, hb6⟩
  obtain ⟨a0, ha0, sa0, la0, ma0⟩ := srt_of (Order.of hop1 hos1)
  subst ha0
  have j4 := j.later hb6
  have hb7 := hb5.trans (hb6.mono hb5.size)
  have HR2 := Lib.hid (rising_any B h.length d h w4 j4.rh (by omega))
  have rL4 := (RowH.of_row (n := s.length) hRa (by rw [ofN_len, la0])).rowQ
  clear HR1 hop1 hos1 hb5 hb6 hRa j
  go_wp2_with fail
  refine HR2.out.mono ?_
  rintro e w5 ⟨Rb, o2, rfl, _, hRb, hop2, hos2, hb8⟩
  obtain ⟨b0, hb0, sb0, lb0, mb0⟩ := srt_of (Order.of hop2 hos2)
  subst hb0
  have j5 := j4.later hb8
  have hb9 := hb7.trans (hb8.mono hb7.size)
  have rL5 := rL4.later hb8
  have rF5 := (RowH.of_row (n := h.length) hRb (by rw [ofN_len, lb0])).rowQ
  have HGC := Lib.hid (gcost_bound (lo := lo) HS.out HH.out sp2)
  have HLE := Lib.hid (dp_all (hi := hi) sa0 sb0 (by omega) HGC.out)
  have HSA := Lib.hid (And.intro sa0 (And.intro la0 ma0))
  have HSB := Lib.hid (And.intro sb0 (And.intro lb0 mb0))
  have HLS := Lib.hid (least_any w5 j5 HS.out HH.out sp1 sp2 a0 b0 s.length h.length la0.symm lb0.symm (some ⟨Ra, 0, none⟩) (some ⟨Rb, 0, none⟩) s.length h.length rL5 rF5 sa0.lt sb0.lt l1 l2)
  rw [la0, lb0] at HLE
  have HT0 : Hid (LeaR (fitU s h hi) (gcost s h lo) (· < s.length) (· < h.length) s.length (dpv (gsub2 s h lo hi a0 b0) s.length h.length)) := HLE.out.congr fun x k => by rw [ma0, mb0]
  have hnn := (dpv_le (c := gsub2 s h lo hi a0 b0) (i := s.length) (k := h.length) fun i k => (grd_bound HS.out HH.out sp1 sp2 _ _).1)
  generalize dpv (gsub2 s h lo hi a0 b0) s.length h.length = tot at *
  clear HLE HR2 hop2 hos2 hb7 hb8 hRb j4 rL4 sa0 la0 ma0 sb0 lb0 mb0
  go_wp2_with fail
  refine HLS.out.mono ?_
  rintro e w6 ⟨rfl, hb10⟩
  have j6 := j5.later hb10
  have hb11 := hb9.trans (hb10.mono hb9.size)
  have HB11 := Lib.hid hb11
  have rL6 := rL5.later hb10
  have rF6 := rF5.later hb10
  clear HLS hb9 hb10 rL5 rF5 j5 hb11
  by_cases hge : tot ≥ 1099511627776
  · have hd : decide (tot ≥ 1099511627776) = true := decide_eq_true hge
    have hd' : decide (1099511627776 ≤ tot) = true := decide_eq_true hge
    have HNO : Hid (∀ M, Mat (fitU s h hi) (· < s.length) (· < h.length) M → M.length ≠ s.length) := by
      rcases HT0.out with ⟨h1, _⟩ | ⟨_, h2⟩
      · omega
      · exact h2
    clear j6 rL6 rF6 HT0
    go_wp2_with fail
    go_ret3
    exact .inl ⟨rfl, HNO.out, HB11.out⟩
  · have hd : decide (tot ≥ 1099511627776) = false := decide_eq_false hge
    have hd' : decide (1099511627776 ≤ tot) = false := decide_eq_false hge
    have HLOW := Lib.hid (HT0.out.low (by omega))
    have HP0 : Hid (GrW w6 s h lo hi tot 0 a0 b0 tot [] (some ⟨Ra, 0, none⟩) (some ⟨Rb, 0, none⟩) s.length h.length (.slice none 0 0) w6) :=
      ⟨GrI.first HSA.out.1 HSB.out.1 HSA.out.2.2 HSB.out.2.2 HSA.out.2.1, Nat.zero_le _, by rw [HSA.out.2.1]; exact rL6, by rw [HSA.out.2.1]; exact Nat.le_refl _, by rw [HSB.out.2.1]; exact rF6, by rw [HSB.out.2.1]; exact Nat.le_refl _, World.ownsRow_nil _ _ _ _, fun p _ _ => by simp [Value.ownBlock], fun p _ _ => by simp [Value.ownBlock], Below.refl _ _⟩
    have HJ6 := Lib.hid j6
    clear rL6 rF6 j6 HT0
    go_wp2_with fail
    go_loopw [10, 11, 13, 14, 15, 16, 17, 41] (fun vl vf vd vt _ _ _ i wr => ∃ (k : Nat) (a b : List Nat) (left : Int) (tt : List Int) (AL AF : Option Addr) (cl cf : Nat), i = .int .i64 k ∧ vd = .int .i64 left ∧ vl = .slice AL a.length cl ∧ vf = .slice AF b.length cf ∧ Hid (GrW w6 s h lo hi tot k a b left tt AL AF cl cf vt wr)) (fun _ _ _ _ _ _ _ i _ => s.length - (RowKit.intOf i).toNat)
    case atStart => exact ⟨0, a0, b0, tot, [], _, _, s.length, h.length, rfl, rfl, by rw [HSA.out.2.1], by rw [HSB.out.2.1], HP0⟩
    case round =>
      clear HP0
      obtain ⟨wq, hwq⟩ : ∃ x, x = wr := ⟨_, rfl⟩
      subst hwq
      obtain ⟨i, a, b, left, tt, AL, AF, cl, cf, rfl, rfl, rfl, rfl, HP⟩ := hrel
      obtain ⟨vt, hvt⟩ : ∃ v, v = u14 := ⟨_, rfl⟩
      subst hvt
      have his := HP.out.le
      have ha64 : a.length ≤ 64 := by have := HP.out.inv.la; omega
      have hb64 : b.length ≤ 64 := by
        have := len_of_sub (b := List.range h.length) HP.out.inv.sb.nd (fun i hi => List.mem_range.2 (HP.out.inv.sb.lt i hi))
        rw [List.length_range] at this
        omega
      have hlf := HP.out.inv.left_nn HLOW.out HGC.out
      have hlt40 : left < 1099511627776 := by omega
      by_cases hlt : i < s.length
      · have hd2 : decide ((i : Int) < (s.length : Int)) = true := decide_eq_true (by omega)
        have hii : (i : Int) < (s.length : Int) := by omega
        obtain ⟨k, hk1, hk2, hk3⟩ := place HP.out.inv.sa.nd (HP.out.inv.shaft hlt)
        have HK := Lib.hid hk1
        have hkl : k < a.length := (List.getElem?_eq_some_iff.1 hk1).1
        have HWO := Lib.hid (fwithout_any AL a.length cl k (wout a k).length (i : Int) (ofN a) wq HP.out.rl HP.out.lcl (by omega) hk2 hk3 (wout_len a hkl))
        have hWE := Lib.hid (show wout (ofN a) k = ofN (wout a k) from wout_map _ _ _)
        have HLS := Lib.hid (HP.out.inv.less hk1)
        clear hk1 hk2 hk3
        go_wp2_with fail
        refine HWO.out.mono ?_
        rintro e w7 ⟨AL2, cl2, rfl, rL2, hcl2, hfr2, hb12⟩
        rw [hWE.out] at rL2
        have HRL2 := Lib.hid rL2
        have HCL2 := Lib.hid hcl2
        have HFL2 : Hid (∀ p, AL2 = some p → vt.ownBlock ≠ some p.block) := fun p e => HP.out.old (hfr2 p e)
        have HP7 := Lib.hid (HP.out.later hb12)
        clear HWO hb12 rL2 hcl2 hfr2 HP
        obtain ⟨AT, ct, hvt⟩ := own_slice HP7.out.own
        subst hvt
        go_wp2_with fail
        go_loopw [11, 13, 14, 16, 17, 49] (fun vf vd vt' _ _ q wr => ∃ q' : Nat, q' ≤ h.length ∧ q = .int .i64 q' ∧ vf = .slice AF b.length cf ∧ vd = .int .i64 left ∧ vt' = .slice AT i ct ∧ Hid (GNo s h lo hi i b left q') ∧ Below w7.heap.size w7 wr) (fun _ _ _ _ _ q _ => h.length - (RowKit.intOf q).toNat)
        case atStart => exact ⟨0, Nat.zero_le _, rfl, rfl, rfl, rfl, GNo.zero, Below.refl _ _⟩
        case round =>
          obtain ⟨wi, hwi⟩ : ∃ x, x = wr := ⟨_, rfl⟩
          subst hwi
          obtain ⟨q, hq, rfl, rfl, rfl, rfl, HQ, hbi⟩ := hrel
          have HPi := Lib.hid (HP7.out.later hbi)
          have HRLi := Lib.hid (HRL2.out.later hbi)
          by_cases hlt2 : q < h.length
          · have hd3 : decide ((q : Int) < (h.length : Int)) = true := decide_eq_true (by omega)
            have hqi : (q : Int) < (h.length : Int) := by omega
            have ji := HJ6.out.later HPi.out.bel
            have HG := Lib.hid (ground_any wi ji HS.out HH.out sp1 sp2 i q hlt hlt2)
            have hgb := grd_bound (hi := hi) HS.out HH.out sp1 sp2 i q
            have HGD := Lib.hid fun hc => grd_dear (s := s) (h := h) (lo := lo) (hi := hi) (i := i) (b := b) (left := left) (q := q) HGC.out hc
            have HTK := Lib.hid (HPi.out.inv.taken hlt2)
            have HCND := Lib.hid fun kk (hq : b[kk]? = some q) (hc : grd s h lo hi i q ≤ left) v hv => HPi.out.inv.cand HK.out hq hlt hlt40 hc (v := v) hv
            have HHIT := Lib.hid fun kk (hq : b[kk]? = some q) hc hgr => HPi.out.inv.hit HQ.out HK.out hq hc hgr hlt40
            obtain ⟨gv, hgv⟩ : ∃ g, g = grd s h lo hi i q := ⟨_, rfl⟩
            rw [← hgv] at HG hgb HGD HCND HHIT
            clear hgv ji
            go_wp2_with fail
            refine HG.out.mono ?_
            rintro e w8 ⟨rfl, hb13⟩
            have HP8 := Lib.hid (HPi.out.later hb13)
            have HRL8 := Lib.hid (HRLi.out.later hb13)
            have hb14 := hbi.trans (hb13.mono hbi.size)
            have hrT := (own_rowH HP8.out.own).rowQ
            clear HG hb13 hbi HPi HRLi
            by_cases hin : (q : Int) ∈ tt
            · have HCN := Lib.hid (contains_any AT i ct (q : Int) tt w8 hrT (by omega) true (by simp [hin]))
              have HQ2 : Hid (GNo s h lo hi i b left (q + 1)) := HQ.out.next fun hc => (HTK.out.1 hc.1) hin
              clear hin hrT HQ HP8
              go_wp2_with fail
              refine HCN.out.mono ?_
              rintro e w9 ⟨rfl, rfl⟩
              go_wp2_with fail
              go_roundw
              case rel => exact ⟨q + 1, by omega, by go_num, rfl, rfl, rfl, HQ2, hb14⟩
              case measure => simp [RowKit.intOf]; omega
            · have HCN := Lib.hid (contains_any AT i ct (q : Int) tt w8 hrT (by omega) false (by simp [hin]))
              have hqb := HTK.out.2 hin
              clear hin hrT
              by_cases hdear : gv > left
              · have hdd : decide (gv > left) = true := decide_eq_true hdear
                have hdd' : decide (left < gv) = true := decide_eq_true hdear
                have HQ2 : Hid (GNo s h lo hi i b left (q + 1)) := HQ.out.next (HGD.out hdear)
                clear HQ HP8
                go_wp2_with fail
                refine HCN.out.mono ?_
                rintro e w9 ⟨rfl, rfl⟩
                go_wp2_with fail
                go_roundw
                case rel => exact ⟨q + 1, by omega, by go_num, rfl, rfl, rfl, HQ2, hb14⟩
                case measure => simp [RowKit.intOf]; omega
              · have hdd : decide (gv > left) = false := decide_eq_false hdear
                have hdd' : decide (left < gv) = false := decide_eq_false hdear
                obtain ⟨kk, hq1, hq2, hq3⟩ := place HP8.out.inv.sb.nd hqb
                have hkk : kk < b.length := (List.getElem?_eq_some_iff.1 hq1).1
                have HWF := Lib.hid fun V (hV : Below w8.heap.size w8 V) => fwithout_any AF b.length cf kk (wout b kk).length (q : Int) (ofN b) V (HP8.out.rf.later hV) HP8.out.lcf (by omega) hq2 hq3 (wout_len b hkk)
                have hFE := Lib.hid (show wout (ofN b) kk = ofN (wout b kk) from wout_map _ _ _)
                have HQ1 := Lib.hid hq1
                have hsb' := HP8.out.inv.sb.wout kk
                have hsa' := HP8.out.inv.sa.wout k
                have hl1 : (wout a k).length ≤ 64 := by have := HLS.out.2; omega
                have hl2 : (wout b kk).length ≤ 64 := by have := wout_len b hkk; omega
                have HLV := Lib.hid (dp_all (hi := hi) hsa' hsb' hl1 HGC.out)
                have HVB := Lib.hid (dpv_le (c := gsub2 s h lo hi (wout a k) (wout b kk)) (i := (wout a k).length) (k := (wout b kk).length) fun i k => (grd_bound HS.out HH.out sp1 sp2 _ _).1)
                have HLST := Lib.hid fun V (hV : Below w8.heap.size w8 V) AF2 cf2 (rF : RowQ V AF2 (wout b kk).length (ofN (wout b kk))) => least_any V ((HJ6.out.later HP8.out.bel).later hV) HS.out HH.out sp1 sp2 (wout a k) (wout b kk) (wout a k).length (wout b kk).length rfl rfl AL2 AF2 cl2 cf2 (HRL8.out.later hV) rF hsa'.lt hsb'.lt hl1 hl2
                have HCD := Lib.hid (HCND.out kk hq1 (by omega) _ HLV.out)
                have HLVE : Hid (dpv (gsub2 s h lo hi (wout a k) (wout b kk)) (wout a k).length (wout b kk).length = dpv (fun i k_1 => grd s h lo hi ((wout a k).getD i 0) ((wout b kk).getD k_1 0)) (wout a k).length (wout b kk).length) := rfl
                rw [← HLVE.out] at HCD
                clear HLV HLVE HCND HGD HTK
                obtain ⟨vv, hvv⟩ : ∃ v, v = dpv (gsub2 s h lo hi (wout a k) (wout b kk)) (wout a k).length (wout b kk).length := ⟨_, rfl⟩
                rw [← hvv] at HCD HVB HLST
                have hvb := HVB.out
                clear hvv hq1 hq2 hq3 hsa' hsb'
                go_wp2_with fail
                refine HCN.out.mono ?_
                rintro e w9 ⟨rfl, rfl⟩
                go_wp2_with fail
                refine (HWF.out w8 (Below.refl _ _)).mono ?_
                rintro e w10 ⟨AF2, cf2, rfl, rF2, hcf2, hff2, hb15⟩
                rw [hFE.out] at rF2
                go_wp2_with fail
                refine (HLST.out w10 hb15 AF2 cf2 rF2).mono ?_
                rintro e w11 ⟨rfl, hb16⟩
                have hb17 := hb15.trans (hb16.mono hb15.size)
                have hb18 := hb14.trans (hb17.mono hb14.size)
                clear HCN rF2 hcf2 hff2 hb15 hb16 hb14 HLST
                by_cases heq : gv + vv = left
                · have hne : (gv + vv != left) = false := by simp [heq]
                  have HC := Lib.hid (HCD.out.2 heq)
                  have HINV := Lib.hid (HHIT.out kk HQ1.out HC.out (by omega))
                  have HP11 := Lib.hid (HP8.out.later hb17)
                  have HRL11 := Lib.hid (HRL8.out.later hb17)
                  have HWF2 := Lib.hid (HWF.out w11 hb17)
                  clear heq HQ HHIT HCD HWF HP8 HRL8 hb17 hb18 HP7 HRL2
                  go_wp2_with fail
                  refine HWF2.out.mono ?_
                  rintro e w12 ⟨AF3, cf3, rfl, rF3, hcf3, hff3, hb19⟩
                  rw [hFE.out] at rF3
                  have HFF3 : Hid (∀ p, AF3 = some p → (Value.slice AT i ct).ownBlock ≠ some p.block) := fun p e => HP11.out.old (hff3 p e)
                  have hba : Below w12.heap.size w12 (w12.alloc (.cells #[.int .i64 (q : Int)] 3)) := (Below.refl _ _).alloc (Nat.le_refl _) _
                  have HP13 := Lib.hid ((HP11.out.later hb19).later hba)
                  have HRL13 := Lib.hid ((HRL11.out.later hb19).later hba)
                  have HRF13 := Lib.hid (rF3.later hba)
                  have HCF := Lib.hid hcf3
                  have HSRC : Hid (RowI (w12.alloc (.cells #[.int .i64 (q : Int)] 3)) (some ⟨w12.heap.size, 0, none⟩) 1 [(q : Int)]) := RowI.of_row (RowB.of (l := [(q : Int)]) (by simpa [rowc] using Blk.new w12 3 #[.int .i64 (q : Int)])) rfl
                  clear HWF2 hb19 hba rF3 hcf3 hff3 HP11 HRL11
                  go_wp2_with (at_builtin; refine app_intsV _ rfl (.tmp 79) (.tmp 81) rfl w6.heap.size (.slice AT i ct) i tt rfl HP13.out.own (some ⟨w12.heap.size, 0, none⟩) 1 1 [(q : Int)] rfl HSRC.out (by omega) (by omega) HP13.out.bel.size ?_)
                  all_goals
                    intro g9 c9 w14 hown9 hgr9 hat9
                    have HN := Lib.hid (HP13.out.push (v := (q : Int)) (by omega) (by rw [List.map_append]; exact hown9) hgr9 (by rcases hat9 with e | e; exact .inl e; exact .inr (by rw [e]; simp)) HINV.out HRL13.out HCL2.out HRF13.out HCF.out (fun p _ e => HFL2.out p e) (fun p _ e => HFF3.out p e))
                    clear hown9 hgr9 hat9
                    go_wp2_with fail
                    go_roundw
                    case rel => exact ⟨i + 1, wout a k, wout b kk, left - gv, _, AL2, AF3, cl2, cf3, by go_num, rfl, rfl, rfl, HN⟩
                    case measure => simp [RowKit.intOf]; omega
                · have hne : (gv + vv != left) = true := by simpa using heq
                  have HQ2 : Hid (GNo s h lo hi i b left (q + 1)) := HQ.out.next fun hc => heq (HCD.out.1 hc)
                  clear heq HQ HHIT HCD HWF HP8 HRL8 hb17
                  go_wp2_with fail
                  go_roundw
                  case rel => exact ⟨q + 1, by omega, by go_num, rfl, rfl, rfl, HQ2, hb18⟩
                  case measure => simp [RowKit.intOf]; omega
          · obtain rfl : q = h.length := by omega
            exact (HP7.out.inv.never HLOW.out hlt HQ.out).elim
      · obtain rfl : i = s.length := by omega
        have hd2 : decide ((s.length : Int) < (s.length : Int)) = false := decide_eq_false (by omega)
        have HF := Lib.hid (And.intro (World.ownsRow.mono HP.out.own HB11.out.size) (And.intro HP.out.inv.gt (HB11.out.trans (HP.out.bel.mono HB11.out.size))))
        clear HP
        go_wp2_with fail
        go_ret3
        exact .inr ⟨_, tt, tot, left, _, rfl, HF.out.1, HLOW.out, HF.out.2.1, HF.out.2.2⟩
end Go.Proofs.Ytpklcjbdmikbdaa
namespace Go.Proofs.Ytpklcjbdmikbdaa
open Go.RowKit

section
variable {F : Nat → Nat → Prop} {g : Nat → Nat → Int} {m k N : Nat} {o : List Int} {v : Int}
theorem AsgL.not_v (hv : o[k]? = some v) (h : ∀ u : Nat, v = (u : Int) → ¬ (F k u ∧ u < m)) : ¬ AsgL F m o := fun ha => by
  have h0 := ha.nat v (List.mem_of_getElem? hv)
  obtain ⟨u, rfl⟩ := Int.eq_ofNat_of_zero_le h0
  exact h u rfl (ha.pl.fit k u hv)
theorem AsgL.not_two {j u : Nat} (hv : o[k]? = some (u : Int)) (hj : j < k) (h : o[j]? = some (u : Int)) : ¬ AsgL F m o := fun ha => PairL.not_two hv hj h ha.pl
theorem AsgL.zero : AsgL F m (o.take 0) := ⟨by simp, by simp, by simp, by simp⟩
theorem AsgL.hit {u : Nat} (h : AsgL F m (o.take k)) (hv : o[k]? = some (u : Int)) (hF : F k u) (hu : u < m) (hd : ∀ j, j < k → o[j]? ≠ some (u : Int)) : AsgL F m (o.take (k + 1)) := by
  refine ⟨fun x hx => ?_, (h.pl.hit hv hF hu hd).1⟩
  rw [take_snoc' hv] at hx
  rcases List.mem_append.1 hx with hx | hx
  · exact h.nat x hx
  · simp at hx; omega
theorem wt_hit {u : Nat} (hv : o[k]? = some (u : Int)) : wt g (prs 0 (o.take (k + 1))) = wt g (prs 0 (o.take k)) + g k u := by
  have hk := (List.getElem?_eq_some_iff.1 hv).1
  rw [take_snoc' hv, prs_append, wt_append, List.length_take, show 0 + min k o.length = k by omega]
  simp only [prs, wt_cons, Int.toNat_natCast]
  simp [wt]
theorem grv_no (h : ¬ (AsgL F m o ∧ o.length = N)) : grv F g m N o = -1 := by unfold grv; rw [if_neg h]
end
set_option maxRecDepth 100000 in
set_option maxHeartbeats 16000000 in
theorem rGround_any (A B P : Option Addr) (n c m d q e0 : Nat) (s h o : List Int) (lo hi : Int) (w : World) (rA : RowH w A n s) (rB : RowH w B m h) (rP : RowH w P q o) (hs : Sizes s) (hh : Sizes h) (l1 : -1000000 ≤ lo) (l2 : lo ≤ 1000000) (hn : n ≤ 1000) (hm : m ≤ 1000) (hq : q ≤ 1000) :
    Calls Try.prog 45 #[.slice A n c, .slice B m d, .agg #[.int .i64 lo, .int .i64 hi], .slice P q e0] w fun e w' => e = .returned (.int .i64 (grv (fitU s h hi) (gcost s h lo) h.length s.length o)) ∧ Below w.heap.size w w' := by
  have hb1 : Below w.heap.size w (w.alloc (.cells #[.int .i64 lo, .int .i64 hi] 26)) := (Below.refl _ _).alloc (Nat.le_refl _) _
  have k1 := Blk.new w 26 #[.int .i64 lo, .int .i64 hi]
  have HLA := Lib.hid rA.1
  have HLB := Lib.hid rB.1
  have HLP := Lib.hid rP.1
  have HS := Lib.hid hs
  have HH := Lib.hid hh
  have HGB := Lib.hid (gcost_bound (lo := lo) hs hh l2)
  have HGP := Lib.hid (gcost_pos s h lo)
  obtain ⟨gval, hgv⟩ : ∃ v, v = grv (fitU s h hi) (gcost s h lo) h.length s.length o := ⟨_, rfl⟩
  have HGV := Lib.hid hgv
  have HNO : Hid (¬ (AsgL (fitU s h hi) h.length o ∧ o.length = s.length) → gval = -1) := fun hx => by rw [hgv]; exact grv_no hx
  have HYES : Hid (AsgL (fitU s h hi) h.length o → o.length = s.length → gval = wt (gcost s h lo) (prs 0 o)) := fun h1 h2 => by rw [hgv]; exact grv_eq h1 h2
  rw [← hgv]
  clear hs hh hgv
  by_cases hqn : q = n
  · subst hqn
    have hne : ((q : Int) != (q : Int)) = false := by simp
    go_enter Try.func45, Try.ntmps45
    go_upto_region 3 with fail
    revert hb1 k1
    generalize w.alloc (.cells #[.int .i64 lo, .int .i64 hi] 26) = w1
    generalize hNe : w.heap.size = N
    intro hb1 k1
    have HNe := Lib.hid hNe
    clear hNe
    go_wp2_with fail
    go_loopw [9, 10, 11] (fun c i _ wr => ∃ (k : Nat) (u : Int), k ≤ q ∧ 0 ≤ u ∧ u ≤ k * 4000000 ∧ i = .int .i64 k ∧ c = .int .i64 u ∧ Hid (AsgL (fitU s h hi) h.length (o.take k) ∧ wt (gcost s h lo) (prs 0 (o.take k)) = u) ∧ Below w1.heap.size w1 wr) (fun _ i _ _ => q - (RowKit.intOf i).toNat)
    case atStart => exact ⟨0, 0, Nat.zero_le _, by omega, by omega, rfl, rfl, ⟨AsgL.zero, rfl⟩, Below.refl _ _⟩
    case round =>
      obtain ⟨k, u, hk, hu0, hu1, rfl, rfl, hP, hb2⟩ := hrel
      have hbw := hb1.trans (hb2.mono (by have := hb1.size; rw [HNe.out] at this; exact this))
      have hbw' : Below w.heap.size w wr := by rw [HNe.out]; exact hbw
      have kB := k1.later hb2
      have cB := kB.cell
      have lB := kB.lt
      by_cases hlt : k < q
      · obtain ⟨gp, rfl, hgp, hcp⟩ := (rP.later hbw').at_ hlt
        have hkq : (k : Int) < (q : Int) := by omega
        have hv := getD_some (l := o) (k := k) (by rw [HLP.out]; exact hlt)
        obtain ⟨v, hve⟩ : ∃ v, v = o.getD k 0 := ⟨_, rfl⟩
        rw [← hve] at hv hcp
        have HV := Lib.hid hv
        clear hv hve
        have hxl := later_cell (w := wr)
        by_cases hin : 0 ≤ v ∧ v ≤ (m : Int) - 1
        · obtain ⟨y, rfl⟩ := Int.eq_ofNat_of_zero_le hin.1
          have hym : y < m := by omega
          obtain ⟨gs, rfl, hgs, hcs⟩ := (rA.later hbw').at_ (k := k) (by have := HLA.out; omega)
          obtain ⟨gh, rfl, hgh, hch⟩ := (rB.later hbw').at_ hym
          have b1 := HS.out.at_ k
          have b2 := HH.out.at_ y
          have b3 := HGB.out k y
          have b4 := HGP.out k y
          have HM1 : Hid (∀ w, Calls Try.prog 60 #[.int .i64 (y : Int), .int .i64 0, .int .i64 ((m : Int) - 1)] w fun e w' => e = .returned (.bool true) ∧ w = w') := fun w => by
            have := rin_any (y : Int) 0 ((m : Int) - 1) w
            rw [decide_eq_true hin.1, decide_eq_true hin.2] at this
            exact this
          have HFU : Hid (fitU s h hi k y ↔ h.getD y 0 - s.getD k 0 ≤ hi) := by
            show _ ↔ _
            unfold fitU
            rw [HLA.out, HLB.out]
            exact ⟨fun hh => hh.2.2, fun hh => ⟨hlt, hym, hh⟩⟩
          have HGC : Hid (gcost s h lo k y = max 0 (lo - (h.getD y 0 - s.getD k 0))) := rfl
          obtain ⟨gc, hgc⟩ : ∃ g, g = gcost s h lo k y := ⟨_, rfl⟩
          have HGE := Lib.hid hgc
          rw [← hgc] at HGC b3 b4
          clear hgc
          generalize h.getD y 0 = hv at *
          generalize s.getD k 0 = sv at *
          have hyi : (y : Int) < (m : Int) := by omega
          by_cases hgap : hv - sv > hi
          · have hd : decide (hv - sv > hi) = true := decide_eq_true hgap
            have hd' : decide (hi < hv - sv) = true := decide_eq_true hgap
            have HF : Hid (gval = -1) := HNO.out fun hh => AsgL.not_v HV.out (fun u2 e => by
              obtain rfl : u2 = y := by omega
              intro h2
              have := HFU.out.1 h2.1
              omega) hh.1
            clear hin hP hgap
            go_wp2_with fail
            refine wp_region_later (by kernel_rfl) (by kernel_rfl) ?_
            repeat (go_big_quiet_step ((go_at_call 60; exact later_same (HM1.out _))))
            refine wpQuiet_nil ?_
            rintro w2 ⟨⟨_, hb3⟩, rfl⟩
            clear hxl hcp hcs hch cB lB
            go_wp2_with fail
            go_ret
            exact ⟨by rw [HF.out]; rfl, hbw'.trans (hb3.mono hbw'.size)⟩
          · have hd : decide (hv - sv > hi) = false := decide_eq_false hgap
            have hd' : decide (hi < hv - sv) = false := decide_eq_false hgap
            have HFk := Lib.hid (HFU.out.2 (by omega))
            clear hin hgap
            go_wp2_with fail
            refine wp_region_later (by kernel_rfl) (by kernel_rfl) ?_
            repeat (go_big_quiet_step ((go_at_call 60; exact later_same (HM1.out _))))
            refine wpQuiet_nil ?_
            rintro w2 ⟨⟨_, hb3⟩, rfl⟩
            have hb4 := hb2.trans (hb3.mono hb2.size)
            have kB2 := kB.later hb3
            have hcp2 := (hb3.cell (p := ⟨gp, k, none⟩) hgp).trans hcp
            have hcs2 := (hb3.cell (p := ⟨gs, k, none⟩) hgs).trans hcs
            have hch2 := (hb3.cell (p := ⟨gh, y, none⟩) hgh).trans hch
            have hgp2 : gp < w2.heap.size := Nat.lt_of_lt_of_le hgp hb3.size
            have hgs2 : gs < w2.heap.size := Nat.lt_of_lt_of_le hgs hb3.size
            have hgh2 : gh < w2.heap.size := Nat.lt_of_lt_of_le hgh hb3.size
            have rP2 := (rP.later hbw').later hb3
            clear hxl hcp hcs hch cB lB
            go_wp2_with fail
            go_loopw [11] (fun i wr => ∃ j : Nat, j ≤ k ∧ i = .int .i64 j ∧ Hid (∀ j', j' < j → o[j']? ≠ some (y : Int)) ∧ Below w2.heap.size w2 wr) (fun i _ => k - (RowKit.intOf i).toNat)
            case atStart => exact ⟨0, Nat.zero_le _, rfl, fun j' h => by omega, Below.refl _ _⟩
            case round =>
              obtain ⟨wo, hwo⟩ : ∃ x, x = wr := ⟨_, rfl⟩
              obtain ⟨j, hj, rfl, hD, hb5⟩ := hrel
              have hb6 := hb4.trans (hb5.mono hb4.size)
              have hcp3 := (hb5.cell (p := ⟨gp, k, none⟩) hgp2).trans hcp2
              have hgp3 : gp < wr.heap.size := Nat.lt_of_lt_of_le hgp2 hb5.size
              clear hwo
              by_cases hjk : j < k
              · have hji : (j : Int) < (k : Int) := by omega
                obtain ⟨gp', e1, _, hcj⟩ := (rP2.later hb5).at_ (k := j) (by omega)
                cases e1
                have hvj := getD_some (l := o) (k := j) (by rw [HLP.out]; omega)
                obtain ⟨x, hxe⟩ : ∃ x, x = o.getD j 0 := ⟨_, rfl⟩
                rw [← hxe] at hvj hcj
                have HVJ := Lib.hid hvj
                have hx2 := later_cell (w := wr)
                have hjq : (j : Int) < (q : Int) := by omega
                clear hvj hxe
                by_cases hxy : x = (y : Int)
                · have hxt : (x == (y : Int)) = true := by simp [hxy]
                  have HF : Hid (gval = -1) := HNO.out fun hh => AsgL.not_two HV.out hjk (by rw [← hxy]; exact HVJ.out) hh.1
                  clear hxy
                  go_wp2_with fail
                  refine wp_region_later (by kernel_rfl) (by kernel_rfl) ?_
                  repeat (go_big_quiet_step (fail))
                  refine wpQuiet_nil ?_
                  rintro w4 ⟨⟨_, hb7⟩, rfl⟩
                  have hbz := hb6.trans (hb7.mono hb6.size)
                  have hbf := hb1.trans (hbz.mono (by have := hb1.size; rw [HNe.out] at this; exact this))
                  clear hx2 hcp3 hcj
                  go_wp2_with fail
                  go_ret
                  exact ⟨by rw [HF.out]; rfl, by rw [HNe.out]; exact hbf⟩
                · have hxt : (x == (y : Int)) = false := by simp [hxy]
                  have HD2 : Hid (∀ j', j' < j + 1 → o[j']? ≠ some (y : Int)) := fun j' h1 h2 => by
                    rcases Nat.lt_or_ge j' j with h3 | h3
                    · exact hD.out j' h3 h2
                    · obtain rfl : j' = j := by omega
                      rw [HVJ.out] at h2
                      exact hxy (Option.some.inj h2)
                  clear hxy
                  go_wp2_with fail
                  refine wp_region_later (by kernel_rfl) (by kernel_rfl) ?_
                  repeat (go_big_quiet_step (fail))
                  refine wpQuiet_nil ?_
                  rintro w4 ⟨⟨_, hb7⟩, rfl⟩
                  have hb8 := hb5.trans (hb7.mono hb5.size)
                  clear hx2 hcp3 hcj
                  go_wp2_with fail
                  go_roundw
                  case rel => exact ⟨j + 1, by omega, by go_num, HD2.out, hb8⟩
                  case measure => simp [RowKit.intOf]; omega
              · obtain rfl : j = k := by omega
                have HP2 : Hid (AsgL (fitU s h hi) h.length (o.take (j + 1)) ∧ wt (gcost s h lo) (prs 0 (o.take (j + 1))) = u + gc) := ⟨hP.out.1.hit HV.out HFk.out (by rw [HLB.out]; exact hym) hD.out, by rw [wt_hit HV.out, hP.out.2, HGE.out]⟩
                have hmx : max 0 (lo - (hv - sv)) = gc := HGC.out.symm
                have kB3 := kB2.later hb5
                have cB3 := kB3.cell
                have lB3 := kB3.lt
                have hcs3 := (hb5.cell (p := ⟨gs, j, none⟩) hgs2).trans hcs2
                have hch3 := (hb5.cell (p := ⟨gh, y, none⟩) hgh2).trans hch2
                have hgs3 : gs < wr.heap.size := Nat.lt_of_lt_of_le hgs2 hb5.size
                have hgh3 : gh < wr.heap.size := Nat.lt_of_lt_of_le hgh2 hb5.size
                have hx3 := later_cell (w := wr)
                clear hP hD hcs2 hch2 hcp2
                go_wp2_with fail
                refine wp_region_later (by kernel_rfl) (by kernel_rfl) ?_
                repeat (go_big_quiet_step (fail))
                refine wpQuiet_nil ?_
                rintro w4 ⟨⟨_, hb7⟩, rfl⟩
                have hb8 := hb6.trans (hb7.mono hb6.size)
                clear hx3 hcp3 hcs3 hch3 cB3 lB3
                go_wp2_with fail
                go_roundw
                case rel => exact ⟨j + 1, u + gc, by omega, by omega, by omega, by go_num, by go_num, HP2.out, hb8⟩
                case measure => simp [RowKit.intOf]; omega
        · have HM1 : Hid (∀ w, Calls Try.prog 60 #[.int .i64 v, .int .i64 0, .int .i64 ((m : Int) - 1)] w fun e w' => e = .returned (.bool false) ∧ w = w') := fun w => by
            have := rin_any v 0 ((m : Int) - 1) w
            rw [show (decide (0 ≤ v) && decide (v ≤ (m : Int) - 1)) = false by simpa using hin] at this
            exact this
          have HF : Hid (gval = -1) := HNO.out fun hh => AsgL.not_v HV.out (fun u2 e h2 => by
            have h3 := h2.2
            rw [HLB.out] at h3
            exact hin ⟨by omega, by omega⟩) hh.1
          clear hin hP
          go_wp2_with fail
          refine wp_region_later (by kernel_rfl) (by kernel_rfl) ?_
          repeat (go_big_quiet_step ((go_at_call 60; exact later_same (HM1.out _))))
          refine wpQuiet_nil ?_
          rintro w2 ⟨⟨_, hb3⟩, rfl⟩
          clear hxl hcp cB lB
          go_wp2_with fail
          go_ret
          exact ⟨by rw [HF.out]; rfl, hbw'.trans (hb3.mono hbw'.size)⟩
      · obtain rfl : k = q := by omega
        have HT : Hid (o.take k = o) := by show _ = _; rw [← HLP.out, List.take_length]
        have HP2 : Hid (gval = u) := by
          have := hP.out
          rw [HT.out] at this
          show _ = _
          rw [HYES.out this.1 (by rw [HLP.out, HLA.out]), this.2]
        clear hP
        go_wp2_with fail
        go_ret
        exact ⟨by rw [HP2.out]; rfl, hbw'⟩
  · have hne : ((q : Int) != (n : Int)) = true := by simp; omega
    have HF : Hid (gval = -1) := HNO.out fun hh => by have := hh.2; rw [HLP.out, HLA.out] at this; exact hqn this
    clear hqn rA rB rP
    go_enter Try.func45, Try.ntmps45
    go_wp2_with fail
    go_ret
    exact ⟨by rw [HF.out]; rfl, hb1⟩
end Go.Proofs.Ytpklcjbdmikbdaa
