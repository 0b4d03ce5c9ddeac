/-
  The plain mathematics of the windows: the lateness of the sweep is that of the worst window. No program in sight.
  No conditions.
-/
import Derived.Test.YtnfcigbiebbjdaaSwI
namespace Go.Proofs.Ytnfcigbiebbjdaa

/-- Whether a job lies in a window: not released before r, due till d. -/
def InW (l : List Jb) (r d i : Int) : Prop := r ≤ (jat l i).rel ∧ (jat l i).due ≤ d
instance (l : List Jb) (r d i : Int) : Decidable (InW l r d i) := by unfold InW; exact inferInstance
/-- The works of the jobs of a window, among the first k. -/
def winS (l : List Jb) (r d : Int) (k : Nat) : Int := sumTo (fun i => if InW l r d i then (jat l i).work else 0) k
/-- What was done of them. -/
def winD (l : List Jb) (f : Int → Int) (r d : Int) (k : Nat) : Int := sumTo (fun i => if InW l r d i then (jat l i).work - f i else 0) k
theorem winD_upd {l : List Jb} {f : Int → Int} {r d x : Int} {i k : Nat} (hi : i < k) : winD l (upd f i x) r d k = winD l f r d k + if InW l r d i then f i - x else 0 := by
  unfold winD
  rw [sumTo_congr (g := upd (fun j => if InW l r d j then (jat l j).work - f j else 0) i (if InW l r d i then (jat l i).work - x else 0)) fun j _ => ?_, sumTo_upd hi]
  · split <;> omega
  · unfold upd
    by_cases e : (j : Int) = i
    · simp [e]
    · simp [e]
theorem winD_nonneg {l : List Jb} {f : Int → Int} {r d : Int} {k : Nat} (h : ∀ i, f i ≤ (jat l i).work) : 0 ≤ winD l f r d k := by
  have h1 := sumTo_le (k := k) (f := fun _ => 0) (g := fun i => if InW l r d i then (jat l i).work - f i else 0) fun i _ => by
    have := h i
    show (0 : Int) ≤ if InW l r d i then (jat l i).work - f i else 0
    split <;> omega
  rw [sumTo_zero] at h1
  exact h1
theorem winD_le {l : List Jb} {f : Int → Int} {r d : Int} {k : Nat} (h : ∀ i, 0 ≤ f i) : winD l f r d k ≤ winS l r d k :=
  sumTo_le fun i _ => by
    have := h i
    show (if InW l r d i then (jat l i).work - f i else 0) ≤ (if InW l r d i then (jat l i).work else 0)
    split <;> omega
theorem winS_nonneg {l : List Jb} {r d : Int} {k : Nat} (h : ∀ i, 0 ≤ (jat l i).work) : 0 ≤ winS l r d k := by
  have h1 := sumTo_le (k := k) (f := fun _ => 0) (g := fun i => if InW l r d i then (jat l i).work else 0) fun i _ => by
    have := h i
    show (0 : Int) ≤ if InW l r d i then (jat l i).work else 0
    split <;> omega
  rw [sumTo_zero] at h1
  exact h1
theorem sumTo_ge {f : Int → Int} (h : ∀ i, 0 ≤ f i) : ∀ {k i : Nat}, i < k → f i ≤ sumTo f k
  | 0, i, hi => by omega
  | k + 1, i, hi => by
    simp only [sumTo]
    have h0 : 0 ≤ sumTo f k := by
      have h1 := sumTo_le (k := k) (f := fun _ => 0) (g := f) fun i _ => h i
      rwa [sumTo_zero] at h1
    by_cases e : i = k
    · subst e; omega
    · have := sumTo_ge h (k := k) (i := i) (by omega)
      have := h k
      omega
theorem exists_min (P : Nat → Prop) (f : Nat → Int) : ∀ n, (∃ i, i < n ∧ P i) → ∃ i, i < n ∧ P i ∧ ∀ j, j < n → P j → f i ≤ f j
  | 0, ⟨i, hi, _⟩ => by omega
  | n + 1, ⟨i, hi, hp⟩ => by
    by_cases h : ∃ i, i < n ∧ P i
    · obtain ⟨m, a, b, c⟩ := exists_min P f n h
      by_cases g : P n ∧ f n < f m
      · refine ⟨n, by omega, g.1, fun j hj hpj => ?_⟩
        by_cases e : j = n
        · subst e; exact Int.le_refl _
        · have := c j (by omega) hpj; omega
      · refine ⟨m, by omega, b, fun j hj hpj => ?_⟩
        by_cases e : j = n
        · subst e
          by_cases g2 : f j < f m
          · exact (g ⟨hpj, g2⟩).elim
          · omega
        · exact c j (by omega) hpj
    · have e : i = n := by
        by_cases e : i = n
        · exact e
        · exact (h ⟨i, by omega, hp⟩).elim
      subst e
      refine ⟨i, hi, hp, fun j hj hpj => ?_⟩
      by_cases e : j = i
      · subst e; exact Int.le_refl _
      · exact (h ⟨j, by omega, hpj⟩).elim

/-- What is done of a window's jobs was done from its release on. -/
def UpI (l : List Jb) (n : Nat) (s : St) : Prop := ∀ r d, winD l s.left r d n = 0 ∨ ∃ j : Nat, j < n ∧ InW l r d j ∧ winD l s.left r d n ≤ s.fin j - r ∧ s.fin j ≤ s.now
theorem UpI.step {l : List Jb} {n : Nat} {s s' : St} (h : UpI l n s) (hS : Sound l n s) (hs : Step l n s s') : UpI l n s' := by
  intro r d
  cases hs with
  | idle x y =>
    rename_i t
    obtain ⟨j, hj, e⟩ := y.1
    have hj2 := hj.2.2.2
    rcases h r d with h1 | ⟨k, h1, h2, h3, h4⟩
    · exact .inl h1
    · exact .inr ⟨k, h1, h2, h3, by show s.fin k ≤ t; omega⟩
  | run x y =>
    rename_i i till
    have hp := Till.pos hS x y
    obtain ⟨k, rfl⟩ := Int.eq_ofNat_of_zero_le x.1.1
    have hk : k < n := by have := x.1.2.1; omega
    have hrel := x.1.2.2.2
    have hD : winD l (run s k till).left r d n = winD l s.left r d n + if InW l r d k then s.left k - (s.left k - (till - s.now)) else 0 := winD_upd hk
    rw [hD]
    by_cases hw : InW l r d k
    · rw [if_pos hw]
      refine .inr ⟨k, hk, hw, ?_, ?_⟩
      · show _ ≤ upd s.fin k till k - r
        have e : upd s.fin (k : Int) till k = till := by unfold upd; rw [if_pos rfl]
        have := hw.1
        rcases h r d with h1 | ⟨j, h1, h2, h3, h4⟩ <;> omega
      · show upd s.fin k till k ≤ till
        unfold upd; rw [if_pos rfl]; exact Int.le_refl _
    · rw [if_neg hw]
      rcases h r d with h1 | ⟨j, h1, h2, h3, h4⟩
      · exact .inl (by omega)
      · have e : (run s k till).fin j = s.fin j := by
          show upd s.fin k till j = s.fin j
          unfold upd; rw [if_neg (fun e : (j : Int) = k => hw (e ▸ h2))]
        exact .inr ⟨j, h1, h2, by rw [e]; omega, by rw [e]; show s.fin j ≤ till; omega⟩
theorem UpI.start (l : List Jb) (n : Nat) : UpI l n (start l) := fun r d => .inl (by
  unfold winD
  rw [sumTo_congr (g := fun _ => 0) fun i _ => ?_, sumTo_zero]
  show (if InW l r d i then (jat l i).work - (jat l i).work else 0) = (0 : Int)
  split <;> omega)
/-- For each due a release from which on only jobs of that window were worked at. -/
structure LowI (l : List Jb) (n : Nat) (s : St) : Prop where
  from_ : ∀ d, ∃ r, r ≤ s.now ∧ s.now - r ≤ winD l s.left r d n ∧ ∀ i : Nat, i < n → (jat l i).due ≤ d → (jat l i).rel < r → s.left i = 0
  ends : ∀ i : Nat, i < n → s.left i = 0 → ∃ r, r ≤ (jat l i).rel ∧ s.fin i - r ≤ winS l r (jat l i).due n
theorem LowI.step {l : List Jb} {n : Nat} {s s' : St} (h : LowI l n s) (hS : Sound l n s) (hS' : Sound l n s') (hs : Step l n s s') : LowI l n s' := by
  cases hs with
  | idle x y =>
    rename_i t
    refine ⟨fun d => ⟨t, Int.le_refl _, ?_, fun i hi hd hr => ?_⟩, h.ends⟩
    · have := winD_nonneg (r := t) (d := d) (k := n) hS.high
      show t - t ≤ winD l s.left t d n
      omega
    · show s.left i = 0
      by_cases e : s.left i = 0
      · exact e
      · by_cases g : (jat l i).rel ≤ s.now
        · exact (x i ⟨by omega, by omega, e, g⟩).elim
        · have := y.2 i ⟨by omega, by omega, e, by omega⟩
          omega
  | run x y =>
    rename_i i till
    have hp := Till.pos hS x y
    obtain ⟨k, rfl⟩ := Int.eq_ofNat_of_zero_le x.1.1
    have hk : k < n := by have := x.1.2.1; omega
    have hl := x.1.2.2.1
    have hD : ∀ r d, winD l (run s k till).left r d n = winD l s.left r d n + if InW l r d k then s.left k - (s.left k - (till - s.now)) else 0 := fun r d => winD_upd hk
    have hoth : ∀ j : Nat, j ≠ k → (run s k till).left j = s.left j := fun j hj => by
      show upd s.left k _ j = _
      unfold upd; rw [if_neg (by omega)]
    have hothf : ∀ j : Nat, j ≠ k → (run s k till).fin j = s.fin j := fun j hj => by
      show upd s.fin k _ j = _
      unfold upd; rw [if_neg (by omega)]
    have hfin : (run s k till).fin k = till := by show upd s.fin k _ k = _; unfold upd; rw [if_pos rfl]
    have key : ∀ d, (jat l k).due ≤ d → ∃ r, r ≤ (jat l k).rel ∧ till - r ≤ winD l (run s k till).left r d n ∧ r ≤ till ∧ ∀ i : Nat, i < n → (jat l i).due ≤ d → (jat l i).rel < r → (run s k till).left i = 0 := fun d hd => by
      obtain ⟨r, h1, h2, h3⟩ := h.from_ d
      have hr : r ≤ (jat l k).rel := by
        by_cases g : r ≤ (jat l k).rel
        · exact g
        · exact (hl (h3 k hk hd (by omega))).elim
      refine ⟨r, hr, ?_, by omega, fun i hi hdi hri => ?_⟩
      · rw [hD, if_pos ⟨hr, hd⟩]; omega
      · have hne : i ≠ k := fun e => by subst e; omega
        rw [hoth i hne]
        exact h3 i hi hdi hri
    refine ⟨fun d => ?_, fun j hj hz => ?_⟩
    · by_cases hd : (jat l k).due ≤ d
      · obtain ⟨r, a, b, c, e⟩ := key d hd
        exact ⟨r, c, b, e⟩
      · refine ⟨till, Int.le_refl _, ?_, fun i hi hdi hri => ?_⟩
        · have := winD_nonneg (r := till) (d := d) (k := n) hS'.high
          show till - till ≤ _
          omega
        · have hne : i ≠ k := fun e => by subst e; omega
          rw [hoth i hne]
          by_cases e : s.left i = 0
          · exact e
          · by_cases g : (jat l i).rel ≤ s.now
            · have := x.2 i ⟨by omega, by omega, e, g⟩
              omega
            · have hw : Waits l n s i := ⟨by omega, by omega, e, by omega⟩
              rcases y with ⟨a, _⟩ | ⟨u, hu, e2⟩
              · exact (a i hw).elim
              · have := hu.2 i hw
                omega
    · by_cases e : j = k
      · subst e
        obtain ⟨r, a, b, _⟩ := key _ (Int.le_refl _)
        have := winD_le (l := l) (r := r) (d := (jat l j).due) (k := n) hS'.low
        exact ⟨r, a, by rw [hfin]; omega⟩
      · rw [hoth j e] at hz
        rw [hothf j e]
        exact h.ends j hj hz
section
variable {l : List Jb} {n : Nat} {s : St} {m : Int}
theorem LowI.start (hv : validB l = true) (hw : ∀ i : Nat, i < n → (jat l i).work ≠ 0) : LowI l n (Ytnfcigbiebbjdaa.start l) := by
  refine ⟨fun d => ⟨0, Int.le_refl _, ?_, fun i _ _ hr => ?_⟩, fun i hi hz => (hw i hi hz).elim⟩
  · have := winD_nonneg (l := l) (f := (Ytnfcigbiebbjdaa.start l).left) (r := 0) (d := d) (k := n) fun i => Int.le_refl _
    show (0 : Int) - 0 ≤ _
    omega
  · have := (jat_calm hv i).2.2.2.2.1
    omega
theorem UpI.reach (hv : validB l = true) (hr : Reach l n (Ytnfcigbiebbjdaa.start l) s) : UpI l n s := by
  have h0 := Sound.start (n := n) (validB_fair hv)
  induction hr with
  | refl => exact UpI.start l n
  | next hr hs ih => exact ih.step (h0.reach (fun i => (jat_calm hv i).2.2.2.2.2) hr) hs
theorem LowI.reach (hv : validB l = true) (hw : ∀ i : Nat, i < n → (jat l i).work ≠ 0) (hr : Reach l n (Ytnfcigbiebbjdaa.start l) s) : LowI l n s := by
  have h0 := Sound.start (n := n) (validB_fair hv)
  have hrel : ∀ i, (jat l i).rel ≤ 640000 := fun i => (jat_calm hv i).2.2.2.2.2
  induction hr with
  | refl => exact LowI.start hv hw
  | next hr hs ih => exact ih.step (h0.reach hrel hr) (h0.reach hrel (.next hr hs)) hs
theorem Done.zero (hd : Done l n s) : ∀ i : Nat, i < n → s.left i = 0 := fun i hi => by
  by_cases e : s.left i = 0
  · exact e
  · by_cases g : (jat l i).rel ≤ s.now
    · exact (hd.1 i ⟨by omega, by omega, e, g⟩).elim
    · exact (hd.2 i ⟨by omega, by omega, e, by omega⟩).elim
/-- No window is worse than the sweep. -/
theorem LateM.window (hv : validB l = true) (hr : Reach l n (start l) s) (hd : Done l n s) (hm : LateM l n s.fin m) {r d : Int} (h0 : 0 < winS l r d n) : r + winS l r d n - d ≤ m := by
  have hz := hd.zero
  have he : winD l s.left r d n = winS l r d n := by
    unfold winD winS
    refine sumTo_congr fun i hi => ?_
    show (if InW l r d i then (jat l i).work - s.left i else 0) = (if InW l r d i then (jat l i).work else 0)
    rw [hz i hi]
    split <;> omega
  rcases UpI.reach hv hr r d with h1 | ⟨j, h1, h2, h3, _⟩
  · omega
  · rcases hm with ⟨a, _⟩ | ⟨_, b⟩
    · omega
    · have := b j h1
      have := h2.2
      omega
/-- There is a window that is as bad. -/
theorem LateM.worst (hv : validB l = true) (hw : ∀ i : Nat, i < n → (jat l i).work ≠ 0) (hr : Reach l n (start l) s) (hd : Done l n s) (hm : LateM l n s.fin m) (hn : 0 < n) :
    ∃ i k : Nat, i < n ∧ k < n ∧ 0 < winS l (jat l i).rel (jat l k).due n ∧ m = (jat l i).rel + winS l (jat l i).rel (jat l k).due n - (jat l k).due := by
  rcases hm with ⟨a, _⟩ | ⟨⟨k, hk, e⟩, b⟩
  · omega
  · obtain ⟨r, h1, h2⟩ := (LowI.reach hv hw hr).ends k hk (hd.zero k hk)
    obtain ⟨i, hi, hp, hmin⟩ := exists_min (fun i => InW l r (jat l k).due i) (fun i => (jat l i).rel) n ⟨k, hk, h1, Int.le_refl _⟩
    have hsame : winS l (jat l i).rel (jat l k).due n = winS l r (jat l k).due n := by
      unfold winS
      refine sumTo_congr fun j hj => ?_
      have h3 := hmin j hj
      by_cases g : InW l r (jat l k).due j
      · have h4 : InW l (jat l i).rel (jat l k).due j := ⟨h3 g, g.2⟩
        show (if InW l _ _ j then _ else _) = (if InW l _ _ j then _ else _)
        rw [if_pos g, if_pos h4]
      · have h4 : ¬ InW l (jat l i).rel (jat l k).due j := fun h => g ⟨Int.le_trans hp.1 h.1, h.2⟩
        show (if InW l _ _ j then _ else _) = (if InW l _ _ j then _ else _)
        rw [if_neg g, if_neg h4]
    have hpos : 0 < winS l (jat l i).rel (jat l k).due n := by
      rw [hsame]
      have h4 := sumTo_ge (f := fun i => if InW l r (jat l k).due i then (jat l i).work else 0) (fun i => by
        have := (jat_calm hv i).1
        show (0 : Int) ≤ if InW l r (jat l k).due i then (jat l i).work else 0
        split <;> omega) hk
      have h5 : (if InW l r (jat l k).due k then (jat l (k : Int)).work else 0) = (jat l k).work := if_pos ⟨h1, Int.le_refl _⟩
      have h6 := hw k hk
      have h7 := (jat_calm hv k).1
      unfold winS
      have h8 : (jat l (k : Int)).work ≤ sumTo (fun i => if InW l r (jat l k).due i then (jat l i).work else 0) n := by
        have := h4; simp only [h5] at this; exact this
      omega
    have hup := LateM.window hv hr hd (.inr ⟨⟨k, hk, e⟩, b⟩) hpos
    refine ⟨i, k, hi, hk, hpos, ?_⟩
    have := hp.1
    have h9 : (jat l (i : Int)).rel ≥ r := hp.1
    omega
end
/-- The worst window so far. -/
structure Cw where
  any : Bool
  most : Int
  r : Int
  d : Int
def Cw.takes (c : Cw) (v r d : Int) : Prop := c.any = false ∨ c.most < v ∨ c.most = v ∧ (r < c.r ∨ r = c.r ∧ d < c.d)
instance (c : Cw) (v r d : Int) : Decidable (c.takes v r d) := by unfold Cw.takes; exact inferInstance
def Cw.step (c : Cw) (s r d : Int) : Cw := if 0 < s ∧ c.takes (r + s - d) r d then ⟨true, r + s - d, r, d⟩ else c
def cwRow (l : List Jb) (n i : Nat) (c : Cw) : Nat → Cw
  | 0 => c
  | k + 1 => (cwRow l n i c k).step (winS l (jat l i).rel (jat l k).due n) (jat l i).rel (jat l k).due
def cwAll (l : List Jb) (n : Nat) : Nat → Cw
  | 0 => ⟨false, 0, 0, 0⟩
  | i + 1 => cwRow l n i (cwAll l n i) n
/-- What is kept is one of the windows, and none so far is worse. -/
structure CwOk (l : List Jb) (n : Nat) (P : Nat → Nat → Prop) (c : Cw) : Prop where
  some_ : c.any = true → ∃ i k : Nat, i < n ∧ k < n ∧ c.r = (jat l i).rel ∧ c.d = (jat l k).due ∧ 0 < winS l c.r c.d n ∧ c.most = c.r + winS l c.r c.d n - c.d
  none_ : c.any = false → c.r = 0 ∧ c.d = 0
  top : ∀ i k : Nat, P i k → 0 < winS l (jat l i).rel (jat l k).due n → c.any = true ∧ (jat l i).rel + winS l (jat l i).rel (jat l k).due n - (jat l k).due ≤ c.most
theorem CwOk.step {l : List Jb} {n : Nat} {P Q : Nat → Nat → Prop} {c : Cw} (h : CwOk l n P c) {i k : Nat} (hi : i < n) (hk : k < n) (hQ : ∀ a b, Q a b → P a b ∨ a = i ∧ b = k) :
    CwOk l n Q (c.step (winS l (jat l i).rel (jat l k).due n) (jat l i).rel (jat l k).due) := by
  unfold Cw.step
  split
  · rename_i g
    refine ⟨fun _ => ⟨i, k, hi, hk, rfl, rfl, g.1, rfl⟩, fun e => (by cases e), fun a b hab h0 => ⟨rfl, ?_⟩⟩
    show _ ≤ (jat l i).rel + winS l (jat l i).rel (jat l k).due n - (jat l k).due
    rcases hQ a b hab with h1 | ⟨rfl, rfl⟩
    · have h2 := h.top a b h1 h0
      rcases g.2 with g2 | g2 | g2
      · rw [h2.1] at g2; cases g2
      · omega
      · omega
    · exact Int.le_refl _
  · rename_i g
    refine ⟨h.some_, h.none_, fun a b hab h0 => ?_⟩
    rcases hQ a b hab with h1 | ⟨rfl, rfl⟩
    · exact h.top a b h1 h0
    · have g2 : ¬ c.takes _ _ _ := fun g2 => g ⟨h0, g2⟩
      unfold Cw.takes at g2
      cases hc : c.any
      · exact (g2 (.inl hc)).elim
      · refine ⟨rfl, ?_⟩
        have g3 : ¬ c.most < (jat l a).rel + winS l (jat l a).rel (jat l b).due n - (jat l b).due := fun g3 => g2 (.inr (.inl g3))
        omega
theorem CwOk.row {l : List Jb} {n i : Nat} (hi : i < n) {c : Cw} (h : CwOk l n (fun a _ => a < i) c) : ∀ k, k ≤ n → CwOk l n (fun a b => a < i ∨ a = i ∧ b < k) (cwRow l n i c k)
  | 0, _ => ⟨h.some_, h.none_, fun a b hab => h.top a b (by show a < i; omega)⟩
  | k + 1, hk => (CwOk.row hi h k (by omega)).step hi (by omega) fun a b hab => by
    show (a < i ∨ a = i ∧ b < k) ∨ a = i ∧ b = k
    have : a < i ∨ a = i ∧ b < k + 1 := hab
    omega
theorem CwOk.all {l : List Jb} {n : Nat} : ∀ i, i ≤ n → CwOk l n (fun a b => a < i ∧ b < n) (cwAll l n i)
  | 0, _ => ⟨fun e => (by cases e), fun _ => ⟨rfl, rfl⟩, fun a b hab => by have : a < 0 ∧ b < n := hab; omega⟩
  | i + 1, hi => by
    have h1 := CwOk.all (l := l) (n := n) i (by omega)
    have key : ∀ k, k ≤ n → CwOk l n (fun a b => a < i ∧ b < n ∨ a = i ∧ b < k) (cwRow l n i (cwAll l n i) k) := fun k => by
      induction k with
      | zero => exact fun _ => ⟨h1.some_, h1.none_, fun a b hab => h1.top a b (by have : a < i ∧ b < n ∨ a = i ∧ b < 0 := hab; show a < i ∧ b < n; omega)⟩
      | succ k ih =>
        exact fun hk => (ih (by omega)).step (by omega) (by omega) fun a b hab => by
          show (a < i ∧ b < n ∨ a = i ∧ b < k) ∨ a = i ∧ b = k
          have : a < i ∧ b < n ∨ a = i ∧ b < k + 1 := hab
          omega
    have h2 := key n (Nat.le_refl _)
    exact ⟨h2.some_, h2.none_, fun a b hab => h2.top a b (by have : a < i + 1 ∧ b < n := hab; show a < i ∧ b < n ∨ a = i ∧ b < n; omega)⟩
/-- The window that is found proves the lateness. -/
theorem LateM.crowd {l : List Jb} {n : Nat} {s : St} {m : Int} (hv : validB l = true) (hw : ∀ i : Nat, i < n → (jat l i).work ≠ 0) (hr : Reach l n (start l) s) (hd : Done l n s) (hm : LateM l n s.fin m) (hn : 0 < n) :
    (cwAll l n n).any = true ∧ 0 < winS l (cwAll l n n).r (cwAll l n n).d n ∧ m = (cwAll l n n).r + winS l (cwAll l n n).r (cwAll l n n).d n - (cwAll l n n).d := by
  have h1 := CwOk.all (l := l) (n := n) n (Nat.le_refl _)
  obtain ⟨i, k, hi, hk, h2, h3⟩ := hm.worst hv hw hr hd hn
  obtain ⟨h4, h5⟩ := h1.top i k ⟨hi, hk⟩ h2
  obtain ⟨i', k', _, _, _, _, h6, h7⟩ := h1.some_ h4
  have h8 := hm.window hv hr hd h6
  exact ⟨h4, h6, by omega⟩
end Go.Proofs.Ytnfcigbiebbjdaa
