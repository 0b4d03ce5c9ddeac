/-
  The plain mathematics of a sweep that is later, and of one without releases. No program in sight.
  No conditions.
-/
import Derived.Test.YtnfcigbiebbjdaaSwP
namespace Go.Proofs.Ytnfcigbiebbjdaa

def shS (b : Int) (z : Sl) : Sl := ⟨z.job, z.fr + b, z.till + b⟩
/-- Jobs that are the same, b later. -/
def LaterJ (l l' : List Jb) (n : Nat) (b : Int) : Prop := ∀ i : Int, 0 ≤ i → i < n → (jat l' i).work = (jat l i).work ∧ (jat l' i).rel = (jat l i).rel + b ∧ (jat l' i).due = (jat l i).due + b
structure Sim (n : Nat) (b : Int) (s t : St) : Prop where
  now : t.now = s.now + b
  left : ∀ i : Int, 0 ≤ i → i < n → t.left i = s.left i
  fin : ∀ i : Int, 0 ≤ i → i < n → s.left i = 0 → t.fin i = s.fin i + b
  out : t.out = s.out.map (shS b)
section
variable {l l' : List Jb} {n : Nat} {b : Int} {s t : St}
theorem Sim.ready (H : LaterJ l l' n b) (h : Sim n b s t) {i : Int} : Ready l' n t i ↔ Ready l n s i := by
  unfold Ready
  constructor
  · rintro ⟨a, c, d, e⟩
    have h1 := H i a c
    rw [h.left i a c] at d
    exact ⟨a, c, d, by have := h.now; omega⟩
  · rintro ⟨a, c, d, e⟩
    have h1 := H i a c
    rw [← h.left i a c] at d
    exact ⟨a, c, d, by have := h.now; omega⟩
theorem Sim.waits (H : LaterJ l l' n b) (h : Sim n b s t) {i : Int} : Waits l' n t i ↔ Waits l n s i := by
  unfold Waits
  constructor
  · rintro ⟨a, c, d, e⟩
    have h1 := H i a c
    rw [h.left i a c] at d
    exact ⟨a, c, d, by have := h.now; omega⟩
  · rintro ⟨a, c, d, e⟩
    have h1 := H i a c
    rw [← h.left i a c] at d
    exact ⟨a, c, d, by have := h.now; omega⟩
theorem Sim.on (H : LaterJ l l' n b) (h : Sim n b s t) {i : Int} (hi : IsOn l n s i) : IsOn l' n t i := by
  refine ⟨(h.ready H).2 hi.1, fun j hj => ?_⟩
  have hj2 := (h.ready H).1 hj
  have h1 := hi.2 j hj2
  have h2 := H i hi.1.1 hi.1.2.1
  have h3 := H j hj2.1 hj2.2.1
  omega
theorem Sim.next (H : LaterJ l l' n b) (h : Sim n b s t) {u : Int} (hu : IsNext l n s u) : IsNext l' n t (u + b) := by
  obtain ⟨⟨j, hj, e⟩, h2⟩ := hu
  refine ⟨⟨j, (h.waits H).2 hj, ?_⟩, fun k hk => ?_⟩
  · have := H j hj.1 hj.2.1
    omega
  · have hk2 := (h.waits H).1 hk
    have := h2 k hk2
    have := H k hk2.1 hk2.2.1
    omega
theorem Sim.noNext (H : LaterJ l l' n b) (h : Sim n b s t) (hu : NoNext l n s) : NoNext l' n t := fun i hi => hu i ((h.waits H).1 hi)
theorem Sim.noOn (H : LaterJ l l' n b) (h : Sim n b s t) (hu : NoOn l n s) : NoOn l' n t := fun i hi => hu i ((h.ready H).1 hi)
theorem Sim.till (H : LaterJ l l' n b) (h : Sim n b s t) {i x : Int} (hi : IsOn l n s i) (hx : Till l n s i x) : Till l' n t i (x + b) := by
  have e1 := h.now
  have e2 := h.left i hi.1.1 hi.1.2.1
  rcases hx with ⟨a, c⟩ | ⟨u, a, c⟩
  · exact .inl ⟨h.noNext H a, by omega⟩
  · exact .inr ⟨u + b, h.next H a, by omega⟩
theorem addSl_sh (o : List Sl) (i a c : Int) : addSl (o.map (shS b)) i (a + b) (c + b) = (addSl o i a c).map (shS b) := by
  cases o with
  | nil => rfl
  | cons z r =>
    have e : ((shS b z).job = i ∧ (shS b z).till = a + b) ↔ (z.job = i ∧ z.till = a) := by
      show (z.job = i ∧ z.till + b = a + b) ↔ _
      omega
    unfold addSl
    simp only [List.map_cons]
    by_cases g : z.job = i ∧ z.till = a
    · rw [if_pos g, if_pos (e.2 g)]
      rfl
    · rw [if_neg g, if_neg (fun h => g (e.1 h))]
      rfl
theorem Sim.run (h : Sim n b s t) {i x : Int} (hi : IsOn l n s i) : Sim n b (run s i x) (run t i (x + b)) := by
  have e1 := h.now
  have e2 := h.left i hi.1.1 hi.1.2.1
  refine ⟨rfl, fun j j0 j1 => ?_, fun j j0 j1 => ?_, ?_⟩
  · show upd t.left i (t.left i - (x + b - t.now)) j = upd s.left i (s.left i - (x - s.now)) j
    unfold upd
    split
    · omega
    · exact h.left j j0 j1
  · show upd s.left i (s.left i - (x - s.now)) j = 0 → upd t.fin i (x + b) j = upd s.fin i x j + b
    unfold upd
    split
    · exact fun _ => rfl
    · exact h.fin j j0 j1
  · show addSl t.out i t.now (x + b) = (addSl s.out i s.now x).map (shS b)
    rw [h.out, e1]
    exact addSl_sh _ _ _ _
theorem Sim.step (H : LaterJ l l' n b) (h : Sim n b s t) {s' : St} (hs : Step l n s s') : ∃ t', Step l' n t t' ∧ Sim n b s' t' := by
  cases hs with
  | idle x y =>
    rename_i u
    exact ⟨{ t with now := u + b }, .idle (h.noOn H x) (h.next H y), rfl, h.left, h.fin, h.out⟩
  | run x y =>
    rename_i i u
    exact ⟨Ytnfcigbiebbjdaa.run t i (u + b), .run (h.on H x) (h.till H x y), h.run x⟩
theorem Sim.reach (H : LaterJ l l' n b) (h : Sim n b s t) {s' : St} (hr : Reach l n s s') : ∃ t', Reach l' n t t' ∧ Sim n b s' t' := by
  induction hr with
  | refl => exact ⟨t, .refl, h⟩
  | next _ hs ih =>
    obtain ⟨t1, h1, h2⟩ := ih
    obtain ⟨t2, h3, h4⟩ := h2.step H hs
    exact ⟨t2, .next h1 h3, h4⟩
theorem Sim.done (H : LaterJ l l' n b) (h : Sim n b s t) (hd : Done l n s) : Done l' n t := ⟨h.noOn H hd.1, h.noNext H hd.2⟩
/-- From the start on, b later. -/
theorem later_reach (H : LaterJ l l' n b) (hb : 0 ≤ b) (hw : ∀ i : Int, 0 ≤ i → i < n → (jat l i).work ≠ 0) (hr0 : ∀ i : Int, 0 ≤ i → i < n → 0 ≤ (jat l i).rel) (hn : 0 < n) (hr : Reach l n (start l) s) (hd : Done l n s) :
    ∃ t, Reach l' n (start l') t ∧ Done l' n t ∧ Sim n b s t := by
  by_cases hb0 : b = 0
  · subst hb0
    have h0 : Sim n 0 (start l) (start l') := ⟨rfl, fun i i0 i1 => (H i i0 i1).1, fun i i0 i1 _ => rfl, rfl⟩
    obtain ⟨t, h1, h2⟩ := h0.reach H hr
    exact ⟨t, h1, h2.done H hd, h2⟩
  · obtain ⟨i, hi, _, hmin⟩ := exists_min (fun _ => True) (fun i => (jat l i).rel) n ⟨0, hn, trivial⟩
    have i0 : (0 : Int) ≤ i := by omega
    have i1 : (i : Int) < n := by omega
    have hmin2 : ∀ j : Int, 0 ≤ j → j < n → (jat l i).rel ≤ (jat l j).rel := fun j j0 j1 => by
      obtain ⟨k, rfl⟩ := Int.eq_ofNat_of_zero_le j0
      exact hmin k (by omega) trivial
    have hri := hr0 i i0 i1
    have hst : Step l' n (start l') { start l' with now := (jat l i).rel + b } := by
      refine .idle (fun j hj => ?_) ⟨⟨i, ⟨i0, i1, ?_, ?_⟩, (H i i0 i1).2.1⟩, fun j hj => ?_⟩
      · have h1 := H j hj.1 hj.2.1
        have h2 := hr0 j hj.1 hj.2.1
        have h3 : (jat l' j).rel ≤ 0 := hj.2.2.2
        omega
      · show (jat l' i).work ≠ 0
        rw [(H i i0 i1).1]
        exact hw i i0 i1
      · show (0 : Int) < (jat l' i).rel
        have := H i i0 i1
        omega
      · have h1 := H j hj.1 hj.2.1
        have := hmin2 j hj.1 hj.2.1
        omega
    by_cases hz : (jat l i).rel = 0
    · have h0 : Sim n b (start l) { start l' with now := (jat l i).rel + b } := ⟨by show (jat l i).rel + b = 0 + b; omega, fun j j0 j1 => (H j j0 j1).1, fun j j0 j1 h => absurd h (hw j j0 j1), rfl⟩
      obtain ⟨t, h1, h2⟩ := h0.reach H hr
      exact ⟨t, Reach.head hst h1, h2.done H hd, h2⟩
    · have hs1 : Step l n (start l) { start l with now := (jat l i).rel } := by
        refine .idle (fun j hj => ?_) ⟨⟨i, ⟨i0, i1, hw i i0 i1, ?_⟩, rfl⟩, fun j hj => hmin2 j hj.1 hj.2.1⟩
        · have h1 := hmin2 j hj.1 hj.2.1
          have h3 : (jat l j).rel ≤ 0 := hj.2.2.2
          omega
        · show (0 : Int) < (jat l i).rel
          omega
      rcases hr.cases with e | ⟨s1, h1, h2⟩
      · subst e
        exact (hs1.notDone hd).elim
      · obtain rfl := h1.uniq hs1
        have h0 : Sim n b { start l with now := (jat l i).rel } { start l' with now := (jat l i).rel + b } := ⟨rfl, fun j j0 j1 => (H j j0 j1).1, fun j j0 j1 h => absurd h (hw j j0 j1), rfl⟩
        obtain ⟨t, h3, h4⟩ := h0.reach H h2
        exact ⟨t, Reach.head hst h3, h4.done H hd, h4⟩
theorem Reach.none (hn : n = 0) (hr : Reach l n (start l) s) : s = start l := by
  rcases hr.cases with e | ⟨s1, h1, _⟩
  · exact e
  · exfalso
    cases h1 with
    | idle x y =>
      obtain ⟨i, hi, _⟩ := y.1
      have := hi.1
      have := hi.2.1
      omega
    | run x y =>
      have := x.1.1
      have := x.1.2.1
      omega
/-- Later jobs have later slices, and the same lateness. -/
theorem later_law (H : LaterJ l l' n b) (hb : 0 ≤ b) (hw : ∀ i : Int, 0 ≤ i → i < n → (jat l i).work ≠ 0) (hr0 : ∀ i : Int, 0 ≤ i → i < n → 0 ≤ (jat l i).rel) {m m' : Int} (hr : Reach l n (start l) s) (hd : Done l n s) (hm : LateM l n s.fin m)
    (hr' : Reach l' n (start l') t) (hd' : Done l' n t) (hm' : LateM l' n t.fin m') : t.out = s.out.map (shS b) ∧ m = m' := by
  by_cases hn : n = 0
  · obtain rfl := hr.none hn
    obtain rfl := hr'.none hn
    refine ⟨rfl, ?_⟩
    rcases hm with h1 | ⟨⟨i, h1, _⟩, _⟩
    · rcases hm' with h2 | ⟨⟨i, h2, _⟩, _⟩
      · omega
      · omega
    · omega
  · obtain ⟨t2, h1, h2, h3⟩ := later_reach H hb hw hr0 (by omega) hr hd
    obtain rfl := hr'.uniq h1 hd' h2
    refine ⟨h3.out, ?_⟩
    have hf : ∀ i : Nat, i < n → t.fin i - (jat l' i).due = s.fin i - (jat l i).due := fun i hi => by
      have e1 := h3.fin i (by omega) (by omega) (hd.zero i hi)
      have e2 := H i (by omega) (by omega)
      omega
    rcases hm with h4 | ⟨⟨i, h4, h5⟩, h6⟩
    · omega
    · refine LateM.uniq (.inr ⟨⟨i, h4, ?_⟩, fun j hj => ?_⟩) hm'
      · rw [hf i h4]; exact h5
      · rw [hf j hj]; exact h6 j hj
/-- Without releases: each job in one piece, by rising due. -/
structure Ev (l : List Jb) (n : Nat) (s : St) : Prop where
  count : (s.out.length : Int) = cnt (fun i => s.left i = 0) n
  head : s.out = [] ∨ ∃ z r, s.out = z :: r ∧ z.till = s.now ∧ s.left z.job = 0 ∧ ∀ j : Int, 0 ≤ j → j < n → s.left j ≠ 0 → (jat l z.job).due ≤ (jat l j).due
  adj : ∀ (k : Nat) (z y : Sl), s.out[k]? = some z → s.out[k + 1]? = some y → z.fr = y.till ∧ (jat l y.job).due ≤ (jat l z.job).due
theorem Ev.step (h0 : ∀ i : Int, 0 ≤ i → i < n → (jat l i).rel = 0) {s' : St} (h : Ev l n s) (hS : Sound l n s) (hs : Step l n s s') : Ev l n s' := by
  have hno : NoNext l n s := fun i hi => by
    have := h0 i hi.1 hi.2.1
    have := hi.2.2.2
    have := hS.now0
    omega
  cases hs with
  | idle x y =>
    obtain ⟨i, hi, _⟩ := y.1
    exact (hno i hi).elim
  | run x y =>
    rename_i i t
    have ht : t = s.now + s.left i := by
      rcases y with ⟨_, e⟩ | ⟨u, hu, _⟩
      · exact e
      · obtain ⟨j, hj, _⟩ := hu.1
        exact (hno j hj).elim
    obtain ⟨k, rfl⟩ := Int.eq_ofNat_of_zero_le x.1.1
    have hk : k < n := by have := x.1.2.1; omega
    have hl := x.1.2.2.1
    have hadd : addSl s.out k s.now t = ⟨k, s.now, t⟩ :: s.out := by
      unfold addSl
      split
      · rename_i e; rw [e]
      · rename_i z r e
        rcases h.head with g | ⟨z', r', g1, _, g3, _⟩
        · rw [g] at e; cases e
        · rw [g1] at e
          injection e with e1 e2
          subst e1 e2
          split
          · rename_i g
            exact (hl (g.1 ▸ g3)).elim
          · rw [g1]
    have hz : s.left k - (t - s.now) = 0 := by omega
    refine ⟨?_, .inr ⟨⟨k, s.now, t⟩, s.out, hadd, rfl, ?_, fun j j0 j1 hj => ?_⟩, fun q z y hz' hy => ?_⟩
    · show ((addSl s.out k s.now t).length : Int) = sumTo (fun j => if upd s.left k (s.left k - (t - s.now)) j = 0 then 1 else 0) n
      rw [hadd, List.length_cons]
      have h1 : (s.out.length : Int) = sumTo (fun j => if s.left j = 0 then 1 else 0) n := h.count
      rw [sumTo_congr (g := upd (fun j => if s.left j = 0 then 1 else 0) k 1) fun j _ => ?_, sumTo_upd hk]
      · rw [if_neg hl]
        omega
      · unfold upd
        by_cases e : (j : Int) = k
        · simp [e, hz]
        · simp [e]
    · show upd s.left k (s.left k - (t - s.now)) k = 0
      unfold upd
      rw [if_pos rfl]
      exact hz
    · have hj2 : upd s.left k (s.left k - (t - s.now)) j ≠ 0 := hj
      unfold upd at hj2
      have hne : j ≠ k := fun e => by rw [if_pos e] at hj2; exact hj2 hz
      rw [if_neg hne] at hj2
      have h1 := x.2 j ⟨j0, j1, hj2, by have := h0 j j0 j1; have := hS.now0; omega⟩
      show (jat l k).due ≤ _
      omega
    · have hz2 : (addSl s.out k s.now t)[q]? = some z := hz'
      have hy2 : (addSl s.out k s.now t)[q + 1]? = some y := hy
      rw [hadd] at hz2 hy2
      cases q with
      | zero =>
        simp only [List.getElem?_cons_zero, Option.some.injEq, List.getElem?_cons_succ] at hz2 hy2
        subst hz2
        rcases h.head with g | ⟨z', r', g1, g2, _, g4⟩
        · rw [g] at hy2; simp at hy2
        · rw [g1] at hy2
          simp only [List.getElem?_cons_zero, Option.some.injEq] at hy2
          subst hy2
          exact ⟨g2.symm, g4 k (by omega) (by omega) hl⟩
      | succ q =>
        simp only [List.getElem?_cons_succ] at hz2 hy2
        exact h.adj q z y hz2 hy2
theorem Ev.reach (hv : validB l = true) (h0 : ∀ i : Int, 0 ≤ i → i < n → (jat l i).rel = 0) (hw : ∀ i : Int, 0 ≤ i → i < n → (jat l i).work ≠ 0) (hr : Reach l n (start l) s) : Ev l n s := by
  have hS := Sound.start (n := n) (validB_fair hv)
  induction hr with
  | refl =>
    refine ⟨?_, .inl rfl, fun k z y hz => by simp [start] at hz⟩
    show (0 : Int) = cnt (fun i => (start l).left i = 0) n
    unfold cnt
    rw [sumTo_congr (g := fun _ => 0) fun j hj => ?_, sumTo_zero]
    exact if_neg (hw j (by omega) (by omega))
  | next hr hs ih => exact ih.step h0 (hS.reach (fun i => (jat_calm hv i).2.2.2.2.2) hr) hs
/-- What the law asks of the slices without releases, in their order. -/
theorem Ev.law (hv : validB l = true) (h0 : ∀ i : Int, 0 ≤ i → i < n → (jat l i).rel = 0) (hw : ∀ i : Int, 0 ≤ i → i < n → (jat l i).work ≠ 0) (hr : Reach l n (start l) s) (hd : Done l n s) :
    s.out.reverse.length = n ∧ ∀ (k : Nat) (y z : Sl), s.out.reverse[k]? = some y → s.out.reverse[k + 1]? = some z → z.fr = y.till ∧ (jat l y.job).due ≤ (jat l z.job).due := by
  have h := Ev.reach hv h0 hw hr
  refine ⟨?_, fun k y z hy hz => ?_⟩
  · have h1 := h.count
    have h2 : cnt (fun i => s.left i = 0) n = n := by
      unfold cnt
      rw [sumTo_congr (g := fun _ => 1) fun j hj => if_pos (hd.zero j hj)]
      clear h h1 hd hr hw h0
      induction n with
      | zero => rfl
      | succ n ih => simp only [sumTo]; omega
    rw [List.length_reverse]
    omega
  · have hz1 := (List.getElem?_eq_some_iff.1 hz).1
    rw [List.length_reverse] at hz1
    rw [List.getElem?_reverse (by omega)] at hy hz
    refine h.adj (s.out.length - 1 - (k + 1)) z y hz ?_
    rw [show s.out.length - 1 - (k + 1) + 1 = s.out.length - 1 - k by omega]
    exact hy
end
end Go.Proofs.Ytnfcigbiebbjdaa
