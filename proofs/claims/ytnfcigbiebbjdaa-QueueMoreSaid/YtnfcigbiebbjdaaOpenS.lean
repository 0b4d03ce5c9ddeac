/-
  A job and a pair of numbers that a law is called with: what may be known of them.
  No conditions.
-/
import Derived.Test.YtnfcigbiebbjdaaG10
import Derived.Laws.IdiomArrays
namespace Go.Proofs.Ytnfcigbiebbjdaa
open Go.ChangeShapes Go.WideShapes Go.ChangeAt Go.RowKit Go.Joins Go.Deep

theorem Try.cells68 : Try.prog.cellsOf 68 = 2 := by kernel_rfl
section
variable {H : Type} {enc : TypeId × Value → H} {w : World} {base : Nat} {spare : Nat → Bool} {held : Bool}
set_option maxRecDepth 100000 in
theorem open_S {r : Reach} {b0 : Nat} {v : Value} {d : DataW H} {p : List MemPlace} (hv : Value.okWide Try.prog w r b0 43 v) (h : DataW.Trod enc Try.prog w base spare held 43 v d p) :
    ∃ (a b c d : Int) (u : Value), v = .agg #[.int .i64 a, .int .i64 b, .int .i64 c, .int .i64 d, u] := by
  obtain ⟨cs, rfl, hsz⟩ := okWide_struct Try.underlying43 hv
  obtain ⟨fuel, hf⟩ := h
  obtain ⟨x0, x1, x2, x3, B, q, cp, l, e, _⟩ := job_of hf
  refine ⟨x0, x1, x2, x3, .slice B q cp, ?_⟩
  have e2 : cs.toList = [.int .i64 x0, .int .i64 x1, .int .i64 x2, .int .i64 x3, .slice B q cp] := e
  rw [← Array.toArray_toList (xs := cs), e2]
set_option maxRecDepth 100000 in
theorem open_T {r : Reach} {b0 : Nat} {v : Value} {d : DataW H} {p : List MemPlace} (hv : Value.okWide Try.prog w r b0 68 v) (h : DataW.Trod enc Try.prog w base spare held 68 v d p) :
    ∃ a b : Int, v = .agg #[.int .i64 a, .int .i64 b] := by
  simp only [Value.okWide, Try.underlying68] at hv
  obtain ⟨cs, rfl, hsz, _⟩ := hv
  obtain ⟨l⟩ := cs
  obtain ⟨fuel, hf⟩ := h
  match l, hsz.trans Try.cells68 with
  | [c0, c1], _ =>
    obtain ⟨xs, m, _, _, _, hl, hg⟩ := DataW.trod_array Try.underlying68 hf
    have h0 := hg 0 (by decide)
    have h1 := hg 1 (by decide)
    rw [Try.cells3] at h0 h1
    match xs, hl with
    | [y0, y1], _ =>
      obtain ⟨a, rfl⟩ := int_of (v := c0) (y := y0) h0
      obtain ⟨b, rfl⟩ := int_of (v := c1) (y := y1) h1
      exact ⟨a, b, rfl⟩
end
end Go.Proofs.Ytnfcigbiebbjdaa
