/-
  Rows of jobs of the call's own that are changed in place.
  No conditions.
-/
import Derived.Test.YtnfcigbiebbjdaaFewO
import Derived.Test.YtnfcigbiebbjdaaLatP
namespace Go.Proofs.Ytnfcigbiebbjdaa
open Go.RowKit

theorem own_put {w : World} {base E n c g s : Nat} {xs : List Value} (h : w.ownsRow base E s (.slice (some ⟨g, 0, none⟩) n c) n xs) (i : Nat) (u : Value) :
    (w.setCell ⟨g, i, none⟩ u).ownsRow base E s (.slice (some ⟨g, 0, none⟩) n c) n (xs.set i u) := by
  obtain ⟨h1, h2⟩ := h
  rcases h2 with ⟨h2, _⟩ | ⟨g', cap, cur, h2, h3, h4, h5, h6, h7, h8⟩
  · cases h2
  · injection h2 with e1 e2 e3
    cases e1
    subst e3
    refine ⟨by rw [List.length_set, h1], .inr ⟨g, c, cur.setIfInBounds i u, rfl, h3, ?_, h5, h6, by simpa using h7, ?_⟩⟩
    · exact Blk.set_ (w := w) (g := g) (t := E) (cs := cur) h4 i u
    · rw [Array.toList_setIfInBounds, List.take_set, h8]
theorem jflat_set : ∀ {js : List Jb} {vs : List Value} {k i : Nat} {j j' : Jb} {v u : Value}, js[k]? = some j → vs[k]? = some v → i < 5 → jcells j' v = (jcells j v).set i u → (jflat js vs).set (k * 5 + i) u = jflat (js.set k j') vs
  | [], _, k, i, j, j', v, u, h, _, _, _ => by simp at h
  | _ :: _, [], k, i, j, j', v, u, _, h, _, _ => by simp at h
  | x :: js, y :: vs, 0, i, j, j', v, u, h1, h2, hi, e => by
    simp only [List.getElem?_cons_zero, Option.some.injEq] at h1 h2
    subst h1 h2
    rw [Nat.zero_mul, Nat.zero_add, jflat, List.set_append_left _ _ (by simpa [jcells] using hi), ← e, List.set_cons_zero, jflat]
  | x :: js, y :: vs, k + 1, i, j, j', v, u, h1, h2, hi, e => by
    simp only [List.getElem?_cons_succ] at h1 h2
    rw [jflat, List.set_append_right _ _ (by simp [jcells]; omega), show (k + 1) * 5 + i - (jcells x y).length = k * 5 + i by simp [jcells]; omega, jflat_set h1 h2 hi e, List.set_cons_succ, jflat]
theorem FewP.jobs {w : World} {M n c : Nat} {A : Option Addr} {js : List Jb} (h : FewP w M A n c js) (hn : js.length = n) : JobsH w A n js := by
  obtain ⟨vs, h1, h2⟩ := h
  exact own_jobs h1 hn h2
theorem FewP.later {w w' : World} {M n c : Nat} {A : Option Addr} {js : List Jb} (h : FewP w M A n c js) (hb : Below w.heap.size w w') : FewP w' M A n c js := by
  obtain ⟨vs, h1, h2⟩ := h
  exact ⟨vs, own_later h1 hb, h2.mono fun v l h => h.later hb⟩
theorem FewP.form {w : World} {M n c : Nat} {A : Option Addr} {js : List Jb} (h : FewP w M A n c js) (h0 : 0 < n) : ∃ g, A = some ⟨g, 0, none⟩ ∧ M ≤ g ∧ g < w.heap.size ∧ ∀ i, w.frozen? ⟨g, i, none⟩ = false := by
  obtain ⟨vs, h1, _⟩ := h
  rcases h1.2 with ⟨_, h2⟩ | ⟨g, cap, cur, h2, h3, h4, _⟩
  · omega
  · injection h2 with e1 e2 e3
    exact ⟨g, e1, h3, (Array.getElem?_eq_some_iff.1 h4).1, fun i => by simp [World.frozen?, h4]⟩
theorem FewP.set_ {w : World} {M n c g k i : Nat} {js : List Jb} {j j' : Jb} {u : Value} (h : FewP w M (some ⟨g, 0, none⟩) n c js) (hn : js.length = n) (hj : js[k]? = some j) (hi : i < 4) (he : ∀ v, jcells j' v = (jcells j v).set i u) (ha : j'.after = j.after) :
    FewP (w.setCell ⟨g, k * 5 + i, none⟩ u) M (some ⟨g, 0, none⟩) n c (js.set k j') := by
  obtain ⟨vs, h1, h2⟩ := h
  have hk : k < n := by have := (List.getElem?_eq_some_iff.1 hj).1; omega
  obtain ⟨v, hv, _⟩ := h2.2 k j.after (by rw [List.getElem?_map, hj]; rfl)
  refine ⟨vs, ?_, ?_⟩
  · rw [← jflat_set hj hv (by omega) (he v)]
    exact own_put h1 _ u
  · have e : (js.set k j').map Jb.after = js.map Jb.after := by
      rw [List.map_set, ha]
      refine List.ext_getElem? fun q => ?_
      rw [List.getElem?_set]
      split
      · rename_i e
        subst e
        rw [List.getElem?_map, hj]
        simp
        exact (List.getElem?_eq_some_iff.1 hj).1
      · rfl
    rw [e]
    exact h2.mono fun v l hr => hr.kept h1 (by decide) (only_setCell (World.grownBy.refl w (some g)) (p := ⟨g, k * 5 + i, none⟩) (.inl rfl) u)
theorem FewP.far {w : World} {M M' n c g n' c' g' i : Nat} {js js' : List Jb} {u : Value} (h : FewP w M (some ⟨g, 0, none⟩) n c js) (h' : FewP w M' (some ⟨g', 0, none⟩) n' c' js') (hg : g ≠ g') : FewP (w.setCell ⟨g', i, none⟩ u) M (some ⟨g, 0, none⟩) n c js := by
  obtain ⟨vs, h1, h2⟩ := h
  obtain ⟨vs', h1', _⟩ := h'
  have hgr := only_setCell (World.grownBy.refl w (some g')) (p := ⟨g', i, none⟩) (.inl rfl) u
  exact ⟨vs, h1.kept hgr (.inr (by simpa [Value.ownBlock] using fun e => hg e)), h2.mono fun v l hr => hr.kept h1' (by decide) hgr⟩
/-- The first k changed, the others as they were. -/
def jupTo (f : Jb → Jb) (k : Nat) (js : List Jb) : List Jb := (js.take k).map f ++ js.drop k
theorem jupTo_len (f : Jb → Jb) (k : Nat) (js : List Jb) : (jupTo f k js).length = js.length := by
  unfold jupTo
  rw [List.length_append, List.length_map, List.length_take, List.length_drop]
  omega
theorem jupTo_zero (f : Jb → Jb) (js : List Jb) : jupTo f 0 js = js := by simp [jupTo]
theorem jupTo_all (f : Jb → Jb) {k : Nat} {js : List Jb} (h : js.length ≤ k) : jupTo f k js = js.map f := by
  unfold jupTo
  rw [List.take_of_length_le h, List.drop_of_length_le h, List.append_nil]
theorem jupTo_get (f : Jb → Jb) {k : Nat} {js : List Jb} {j : Jb} (h : js[k]? = some j) : (jupTo f k js)[k]? = some j := by
  have hk := (List.getElem?_eq_some_iff.1 h).1
  unfold jupTo
  rw [List.getElem?_append_right (by rw [List.length_map, List.length_take]; omega), List.length_map, List.length_take, Nat.min_eq_left (by omega), Nat.sub_self, List.getElem?_drop]
  simpa using h
theorem jupTo_set (f : Jb → Jb) {k : Nat} {js : List Jb} {j : Jb} (h : js[k]? = some j) : (jupTo f k js).set k (f j) = jupTo f (k + 1) js := by
  have hk := (List.getElem?_eq_some_iff.1 h).1
  have hd : js.drop k = j :: js.drop (k + 1) := by rw [List.drop_eq_getElem_cons hk, (List.getElem?_eq_some_iff.1 h).2]
  unfold jupTo
  rw [List.set_append_right _ _ (by rw [List.length_map, List.length_take]; omega), List.length_map, List.length_take, Nat.min_eq_left (by omega), Nat.sub_self, hd, List.set_cons_zero, List.take_add_one, h, List.map_append]
  simp
/-- A job b later; a job without release. -/
def shJ (b : Int) (j : Jb) : Jb := ⟨j.work, wrap64 (j.rel + b), wrap64 (j.due + b), j.wt, j.after⟩
def erJ (j : Jb) : Jb := ⟨j.work, 0, j.due, j.wt, j.after⟩
theorem jat_map {f : Jb → Jb} {js : List Jb} {i : Int} (h0 : 0 ≤ i) (h1 : i < js.length) : jat (js.map f) i = f (jat js i) := by
  obtain ⟨k, rfl⟩ := Int.eq_ofNat_of_zero_le h0
  have hk : k < js.length := by omega
  have h2 : js[k]? = some js[k] := List.getElem?_eq_getElem hk
  rw [jat_get h2, jat_get (l := js.map f) (j := f js[k]) (by rw [List.getElem?_map, h2]; rfl)]
theorem validB_of {l : List Jb} (hl : l.length ≤ 64) (h : ∀ (k : Nat) (j : Jb), l[k]? = some j → jobB k j = true) : validB l = true := by
  have key : ∀ (r : List Jb) (i : Nat), (∀ (k : Nat) (j : Jb), r[k]? = some j → jobB (i + k) j = true) → allB i r = true := by
    intro r
    induction r with
    | nil => exact fun i _ => rfl
    | cons j r ih =>
      intro i hh
      simp only [allB, Bool.and_eq_true]
      refine ⟨?_, ih (i + 1) fun k j' hk => ?_⟩
      · have := hh 0 j rfl
        simpa using this
      · have := hh (k + 1) j' (by simpa using hk)
        rwa [show i + 1 + k = i + (k + 1) by omega]
  unfold validB
  rw [decide_eq_true hl, key l 0 fun k j hk => by rw [Nat.zero_add]; exact h k j hk]
  rfl
theorem erJ_valid {l : List Jb} (hv : validB l = true) : validB (l.map erJ) = true := by
  have hv2 := hv
  unfold validB at hv2
  simp only [Bool.and_eq_true, decide_eq_true_eq] at hv2
  refine validB_of (by rw [List.length_map]; exact hv2.1) fun k j hk => ?_
  rw [List.getElem?_map] at hk
  cases hj : l[k]? with
  | none => rw [hj] at hk; cases hk
  | some x =>
    rw [hj] at hk
    simp only [Option.map_some, Option.some.injEq] at hk
    subst hk
    have h1 := allB_step hj hv2.2
    unfold jobB at h1 ⊢
    simp only [Bool.and_eq_true, decide_eq_true_eq] at h1 ⊢
    exact ⟨⟨h1.1.1, h1.1.2.1, Int.le_refl _, (by show (0 : Int) ≤ 640000; decide), h1.1.2.2.2.2⟩, h1.2⟩
theorem shJ_later {l : List Jb} {b : Int} (hv : validB l = true) (hb0 : 0 ≤ b) (hb1 : b ≤ 1023) : LaterJ l (l.map (shJ b)) l.length b := fun i i0 i1 => by
  have h := jat_calm hv i
  rw [jat_map i0 i1]
  refine ⟨rfl, ?_, ?_⟩
  · show wrap64 ((jat l i).rel + b) = _
    simp only [wrap64]; omega
  · show wrap64 ((jat l i).due + b) = _
    simp only [wrap64]; omega
theorem lat_mid {wr : World} {M M' N gL gE c2 c3 k : Nat} {b : Int} {js : List Jb} {j : Jb} (hL : FewP wr M (some ⟨gL, 0, none⟩) N c2 (jupTo (shJ b) k js)) (hE : FewP wr M' (some ⟨gE, 0, none⟩) N c3 (jupTo erJ k js)) (hN : js.length = N) (hj : js[k]? = some j) (hne : gL ≠ gE) :
    FewP ((wr.setCell ⟨gL, k * 5 + 1, none⟩ (.int .i64 (wrap64 (j.rel + b)))).setCell ⟨gL, k * 5 + 2, none⟩ (.int .i64 (wrap64 (j.due + b)))).drew M (some ⟨gL, 0, none⟩) N c2 (jupTo (shJ b) (k + 1) js) ∧
      FewP ((wr.setCell ⟨gL, k * 5 + 1, none⟩ (.int .i64 (wrap64 (j.rel + b)))).setCell ⟨gL, k * 5 + 2, none⟩ (.int .i64 (wrap64 (j.due + b)))).drew M' (some ⟨gE, 0, none⟩) N c3 (jupTo erJ k js) := by
  have h1 := hL.set_ (i := 1) (j' := ⟨j.work, wrap64 (j.rel + b), j.due, j.wt, j.after⟩) (u := .int .i64 (wrap64 (j.rel + b))) (by rw [jupTo_len]; exact hN) (jupTo_get _ hj) (by omega) (fun v => rfl) rfl
  have hk : k < (jupTo (shJ b) k js).length := by rw [jupTo_len]; exact (List.getElem?_eq_some_iff.1 hj).1
  have h2 := h1.set_ (i := 2) (j := ⟨j.work, wrap64 (j.rel + b), j.due, j.wt, j.after⟩) (j' := shJ b j) (u := .int .i64 (wrap64 (j.due + b))) (by rw [List.length_set, jupTo_len]; exact hN) (List.getElem?_set_self hk) (by omega) (fun v => rfl) rfl
  rw [List.set_set, jupTo_set _ hj] at h2
  exact ⟨h2.later (Below.refl _ _).drew, ((hE.far hL hne.symm).far h1 hne.symm).later (Below.refl _ _).drew⟩
theorem lat_end {w : World} {M M' N gL gE c2 c3 k k' : Nat} {f : Jb → Jb} {js : List Jb} {j : Jb} (hL : FewP w M (some ⟨gL, 0, none⟩) N c2 (jupTo f k' js)) (hE : FewP w M' (some ⟨gE, 0, none⟩) N c3 (jupTo erJ k js)) (hN : js.length = N) (hj : js[k]? = some j) (hne : gL ≠ gE) :
    FewP (w.setCell ⟨gE, k * 5 + 1, none⟩ (.int .i64 0)) M (some ⟨gL, 0, none⟩) N c2 (jupTo f k' js) ∧ FewP (w.setCell ⟨gE, k * 5 + 1, none⟩ (.int .i64 0)) M' (some ⟨gE, 0, none⟩) N c3 (jupTo erJ (k + 1) js) := by
  have h1 := hE.set_ (i := 1) (j' := erJ j) (u := .int .i64 0) (by rw [jupTo_len]; exact hN) (jupTo_get _ hj) (by omega) (fun v => rfl) rfl
  rw [jupTo_set _ hj] at h1
  exact ⟨hL.far hE hne, h1⟩
theorem and_1023 (n : Int) : bits .and .i64 n 1023 = n % 1024 := by
  have h127 : (BitVec.ofInt 64 1023).toNat = 2 ^ 10 - 1 := by decide
  have key : (BitVec.ofInt 64 n &&& BitVec.ofInt 64 1023).toNat = (n % ((2 ^ 64 : Nat) : Int)).toNat % 2 ^ 10 := by
    rw [BitVec.toNat_and, BitVec.toNat_ofInt, h127, Nat.and_two_pow_sub_one_eq_mod]
  show IntKind.i64.wrap ((BitVec.ofInt 64 n &&& BitVec.ofInt 64 1023).toNat : Nat) = n % 1024
  rw [key, IntKind.wrap_i64]
  omega
end Go.Proofs.Ytnfcigbiebbjdaa
