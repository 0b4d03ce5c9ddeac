/-
  The plain mathematics of a chronograph that is begun later, and of one that nobody pushes any more.
  No conditions.
-/
import Derived.Test.YtjlnkghjiaglmaaOrdered
import Derived.Test.YtjlnkghjiaglmaaRPlay2
namespace Go.Proofs.Ytjlnkghjiaglmaa

/-- Pushes, each later. -/
def shiftL (d : Int) (l : List (Int × Int)) : List (Int × Int) := l.map fun x => (x.1 + d, x.2)
theorem shiftL_zero (l : List (Int × Int)) : shiftL 0 l = l := by
  unfold shiftL
  simp
theorem shiftL_length (d : Int) (l : List (Int × Int)) : (shiftL d l).length = l.length := by simp [shiftL]
theorem shiftL_take {d t b : Int} {l : List (Int × Int)} {k : Nat} (h : l[k]? = some (t, b)) : shiftL d (l.take (k + 1)) = shiftL d (l.take k) ++ [(t + d, b)] := by
  have hk : k < l.length := (List.getElem?_eq_some_iff.1 h).1
  have e : l[k] = (t, b) := (List.getElem?_eq_some_iff.1 h).2
  rw [List.take_succ_eq_append_getElem hk, e]
  simp [shiftL]
/-- The same chronograph, begun later. -/
structure Later' (d : Int) (c c' : Ch) : Prop where
  r : c'.r = c.r
  h : c'.h = c.h
  m : c'.m = c.m
  p : c'.p = c.p
  s : c.r = true → c'.s = c.s + d
theorem Later'.now {d : Int} {c c' : Ch} (h : Later' d c c') (t : Int) : c'.now (t + d) = c.now t := by
  obtain ⟨r, _, m, _, s⟩ := h
  unfold Ch.now
  rw [r, m]
  split
  · rename_i hr
    rw [s hr]
    omega
  · rfl
theorem Later'.push {d : Int} {c c' : Ch} (h : Later' d c c') (t b : Int) : Later' d (c.push t b) (c'.push (t + d) b) := by
  have hn := h.now t
  obtain ⟨r, h', m, p, s⟩ := h
  unfold Ch.push
  split
  · exact ⟨by rw [r], h', hn, p, fun _ => rfl⟩
  split
  · exact ⟨r, by rw [r, h'], rfl, p, fun _ => rfl⟩
  rw [h', r]
  split
  · exact ⟨rfl, rfl, m, p, s⟩
  split
  · exact ⟨rfl, rfl, m, hn, s⟩
  · exact ⟨r, h', m, p, s⟩
theorem Later'.played {d at_ : Int} : ∀ {l : List (Int × Int)} {c c' : Ch}, Later' d c c' → Later' d (played at_ c l) (played (at_ + d) c' (shiftL d l))
  | [], _, _, h => h
  | x :: l, c, c', h => by
    show Later' d (Go.Proofs.Ytjlnkghjiaglmaa.played at_ (if x.1 ≤ at_ then c.push x.1 x.2 else c) l) (Go.Proofs.Ytjlnkghjiaglmaa.played (at_ + d) (if x.1 + d ≤ at_ + d then c'.push (x.1 + d) x.2 else c') (shiftL d l))
    by_cases hx : x.1 ≤ at_
    · rw [if_pos hx, if_pos (by omega)]
      exact Later'.played (h.push _ _)
    · rw [if_neg hx, if_neg (by omega)]
      exact Later'.played h
theorem Later'.zero (d : Int) : Later' d Ch.zero Ch.zero := ⟨rfl, rfl, rfl, rfl, fun h => by cases h⟩
theorem Later'.shown {d : Int} {c c' : Ch} (h : Later' d c c') (t : Int) : shownV c' (t + d) = shownV c t := by
  unfold shownV
  rw [h.now t, h.r, h.h, h.p]
theorem Later'.lap {d : Int} {c c' : Ch} (h : Later' d c c') (b : Int) : c'.lap b = c.lap b := by
  unfold Ch.lap
  rw [h.r, h.h]
theorem Later'.laps {d : Int} : ∀ {l : List (Int × Int)} {c c' : Ch}, Later' d c c' → lapsL c' (shiftL d l) = lapsL c l
  | [], _, _, _ => rfl
  | x :: l, c, c', h => by
    show (if c'.lap x.2 = true then (c'.push (x.1 + d) x.2).p :: lapsL (c'.push (x.1 + d) x.2) (shiftL d l) else lapsL (c'.push (x.1 + d) x.2) (shiftL d l)) = _
    rw [h.lap, (h.push x.1 x.2).p, Later'.laps (h.push x.1 x.2)]
    rfl

/-- What ordered makes is valid, as much later as one likes. -/
theorem ordG_ord {d : Int} : ∀ {l : List (Int × Int)} {s u : Int}, u ≤ s + d → 0 ≤ u → s + d + 1023 * (l.length : Int) ≤ 1000000000 → ordL u (shiftL d (ordG s l)) = true
  | [], _, _, _, _, _ => rfl
  | x :: l, s, u, h1, h0, h2 => by
    have hl : ((x :: l).length : Int) = l.length + 1 := by simp
    rw [hl] at h2
    show (decide (1 ≤ x.2 % 3 + 1 ∧ x.2 % 3 + 1 ≤ 3 ∧ u ≤ s + x.1 % 1024 + d ∧ s + x.1 % 1024 + d ≤ 1000000000) && ordL (s + x.1 % 1024 + d) (shiftL d (ordG (s + x.1 % 1024) l))) = true
    rw [ordG_ord (by omega) (by omega) (by omega), decide_eq_true (by omega)]
    rfl
theorem ordG_ord0 {l : List (Int × Int)} {s u : Int} (h1 : u ≤ s) (h0 : 0 ≤ u) (h2 : s + 1023 * (l.length : Int) ≤ 1000000000) : ordL u (ordG s l) = true := by
  have := ordG_ord (d := 0) (l := l) (s := s) (u := u) (by omega) h0 (by omega)
  rwa [shiftL_zero] at this
theorem ordG_most : ∀ {l : List (Int × Int)} {s : Int}, ∀ x ∈ ordG s l, x.1 ≤ s + 1023 * (l.length : Int)
  | [], _, x, h => by cases h
  | y :: l, s, x, h => by
    have hl : ((y :: l).length : Int) = l.length + 1 := by simp
    rw [hl]
    rcases List.mem_cons.1 h with rfl | h
    · show s + y.1 % 1024 ≤ _
      omega
    · have := ordG_most (l := l) (s := s + y.1 % 1024) x h
      omega

/-- All pushes, one behind the other. -/
def runL (c : Ch) (l : List (Int × Int)) : Ch := l.foldl (fun c x => c.push x.1 x.2) c
theorem played_all {at_ : Int} : ∀ {l : List (Int × Int)} {c : Ch}, (∀ x ∈ l, x.1 ≤ at_) → played at_ c l = runL c l
  | [], _, _ => rfl
  | x :: l, c, h => by
    show played at_ (if x.1 ≤ at_ then c.push x.1 x.2 else c) l = runL (c.push x.1 x.2) l
    rw [if_pos (h x (List.mem_cons_self ..))]
    exact played_all fun y hy => h y (List.mem_cons_of_mem _ hy)
theorem ordL_last : ∀ {l : List (Int × Int)} {u t b : Int}, ordL u l = true → l[l.length - 1]? = some (t, b) → (∀ x ∈ l, x.1 ≤ t) ∧ u ≤ t ∧ t ≤ 1000000000
  | [], _, _, _, _, h => by cases h
  | [x], u, t, b, h, e => by
    simp at e
    unfold ordL at h
    rw [Bool.and_eq_true, decide_eq_true_eq] at h
    obtain ⟨⟨_, _, h3, h4⟩, _⟩ := h
    rw [e] at h3 h4
    exact ⟨fun y hy => by rw [List.mem_singleton] at hy; rw [hy, e]; exact Int.le_refl _, h3, h4⟩
  | x :: y :: l, u, t, b, h, e => by
    unfold ordL at h
    rw [Bool.and_eq_true, decide_eq_true_eq] at h
    obtain ⟨⟨_, _, h3, h4⟩, h5⟩ := h
    have ih := ordL_last (l := y :: l) (t := t) (b := b) h5 (by simpa using e)
    refine ⟨fun z hz => ?_, by omega, ih.2.2⟩
    rcases List.mem_cons.1 hz with rfl | hz
    · exact ih.2.1
    · exact ih.1 z hz
theorem ordL_more {at_ : Int} (ha : at_ ≤ 1000000000) : ∀ {l : List (Int × Int)} {u : Int}, u ≤ at_ → (∀ x ∈ l, x.1 ≤ at_) → ordL u l = true → ordL u (l ++ [(at_, 3), (at_, 3)]) = true
  | [], u, hu, _, _ => by
    show (decide (1 ≤ (3 : Int) ∧ (3 : Int) ≤ 3 ∧ u ≤ at_ ∧ at_ ≤ 1000000000) && (decide (1 ≤ (3 : Int) ∧ (3 : Int) ≤ 3 ∧ at_ ≤ at_ ∧ at_ ≤ 1000000000) && true)) = true
    rw [decide_eq_true (by omega), decide_eq_true (by omega)]
    rfl
  | x :: l, u, hu, hx, h => by
    unfold ordL at h
    rw [Bool.and_eq_true] at h
    show (decide (1 ≤ x.2 ∧ x.2 ≤ 3 ∧ u ≤ x.1 ∧ x.1 ≤ 1000000000) && ordL x.1 (l ++ [(at_, 3), (at_, 3)])) = true
    rw [h.1, ordL_more ha (hx x (List.mem_cons_self ..)) (fun y hy => hx y (List.mem_cons_of_mem _ hy)) h.2]
    rfl
theorem runL_fine : ∀ {l : List (Int × Int)} {c : Ch} {u at_ : Int}, ordL u l = true → c.fine u → u ≤ at_ → (∀ x ∈ l, x.1 ≤ at_) → (runL c l).fine at_
  | [], _, _, _, _, hf, hu, _ => Ch.fine_mono hf hu
  | x :: l, c, u, at_, h, hf, _, hx => by
    unfold ordL at h
    rw [Bool.and_eq_true, decide_eq_true_eq] at h
    exact runL_fine (l := l) (c := c.push x.1 x.2) h.2 (Ch.fine_push x.2 hf h.1.2.2.1) (hx x (List.mem_cons_self ..)) fun y hy => hx y (List.mem_cons_of_mem _ hy)
theorem runL_more (c : Ch) (l : List (Int × Int)) (at_ : Int) : runL c (l ++ [(at_, 3), (at_, 3)]) = ((runL c l).push at_ 3).push at_ 3 := by
  unfold runL
  rw [List.foldl_append]
  rfl
/-- Split twice at one time, where the split hand is not held: the same is shown. -/
theorem split_twice {c : Ch} {at_ t : Int} (hh : c.h = false) : shownV ((c.push at_ 3).push at_ 3) t = shownV c t := by
  obtain ⟨r, h, s, m, p⟩ := c
  simp only at hh
  subst hh
  cases r <;> simp [Ch.push, shownV, Ch.now]
theorem now_more (c : Ch) (t d : Int) : c.now (t + d) = c.now t + (if c.r = true then d else 0) := by
  unfold Ch.now
  split <;> omega
end Go.Proofs.Ytjlnkghjiaglmaa
