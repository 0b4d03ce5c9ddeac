/-
  The plain mathematics of the chronograph: no program in sight.
  No conditions.
-/
namespace Go.Proofs.Ytjlnkghjiaglmaa

/-- A chronograph: does it run, is the split hand held, since when, the main hand then, the split hand. -/
structure Ch where
  r : Bool
  h : Bool
  s : Int
  m : Int
  p : Int
namespace Ch
/-- Where the main hand is. -/
def now (c : Ch) (t : Int) : Int := if c.r = true then c.m + t - c.s else c.m
/-- Behind a push. -/
def push (c : Ch) (t b : Int) : Ch :=
  if b = 1 then ⟨!c.r, c.h, t, c.now t, c.p⟩
  else if b = 2 then ⟨c.r, c.h && c.r, t, 0, c.p⟩
  else if c.h = true then ⟨c.r, false, c.s, c.m, c.p⟩
  else if c.r = true then ⟨c.r, true, c.s, c.m, c.now t⟩ else c
/-- Does a push hold the split hand? -/
def lap (c : Ch) (b : Int) : Bool := decide (b = 3) && !c.h && c.r
/-- The hands are not ahead of the time. -/
def fine (c : Ch) (t : Int) : Prop := 0 ≤ c.m ∧ c.m ≤ c.s ∧ c.s ≤ t ∧ 0 ≤ c.p ∧ c.p ≤ t
theorem fine_now {c : Ch} {t u : Int} (h : c.fine t) (hu : t ≤ u) : 0 ≤ c.now u ∧ c.now u ≤ u := by
  obtain ⟨h1, h2, h3, _, _⟩ := h
  unfold now; split <;> omega
theorem fine_mono {c : Ch} {t u : Int} (h : c.fine t) (hu : t ≤ u) : c.fine u := by
  obtain ⟨h1, h2, h3, h4, h5⟩ := h
  exact ⟨h1, h2, by omega, h4, by omega⟩
theorem fine_push {c : Ch} {t u : Int} (b : Int) (h : c.fine t) (hu : t ≤ u) : (c.push u b).fine u := by
  have hn := fine_now h hu
  have hf := fine_mono h hu
  obtain ⟨h1, h2, h3, h4, h5⟩ := h
  unfold push
  split
  · exact ⟨hn.1, hn.2, Int.le_refl _, h4, by show c.p ≤ u; omega⟩
  split
  · exact ⟨Int.le_refl _, by show (0 : Int) ≤ u; omega, Int.le_refl _, h4, by show c.p ≤ u; omega⟩
  split
  · exact hf
  split
  · exact ⟨h1, h2, by show c.s ≤ u; omega, hn.1, hn.2⟩
  · exact hf
/-- A chronograph that nobody has pushed. -/
def zero : Ch := ⟨false, false, 0, 0, 0⟩
theorem fine_zero : zero.fine 0 := ⟨Int.le_refl _, Int.le_refl _, Int.le_refl _, Int.le_refl _, Int.le_refl _⟩
end Ch
end Go.Proofs.Ytjlnkghjiaglmaa
