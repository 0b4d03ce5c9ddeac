/-
  Arguments that are slices of jobs, opened to their rows.
  No conditions.
-/
import Derived.Test.YtnfcigbiebbjdaaOpenI
import Derived.Test.YtnfcigbiebbjdaaFew2
namespace Go.Proofs.Ytnfcigbiebbjdaa
open Go.ChangeShapes Go.WideShapes Go.ChangeAt Go.RowKit Go.Joins Go.Deep

theorem Try.cells43 : Try.prog.cellsOf 43 = 5 := by kernel_rfl
theorem Try.cells23 : Try.prog.cellsOf 23 = 1 := by kernel_rfl
instance : Inhabited Jb := ⟨Jb.none⟩
theorem add_off {a : Addr} (k i : Nat) (h : 0 < i) : (⟨(a.add k).block, (a.add k).off + i, none⟩ : Addr) = a.add (k + i) := by
  unfold Addr.add
  by_cases hk : k = 0
  · subst hk
    rw [if_pos rfl, if_neg (by omega)]
    simp
  · rw [if_neg hk, if_neg (by omega)]
    simp [Nat.add_assoc]
section
variable {H : Type} {enc : TypeId × Value → H} {w : World} {base : Nat} {spare : Nat → Bool} {held : Bool}
set_option maxRecDepth 100000 in
theorem job_of {n : Nat} {cs : List Value} {y : DataW H × List MemPlace} (h : DataW.trod enc Try.prog w base spare held n 43 cs = some y) :
    ∃ (a b c d : Int) (B : Option Addr) (m cap : Nat) (l : List Int), cs = [.int .i64 a, .int .i64 b, .int .i64 c, .int .i64 d, .slice B m cap] ∧ RowI w B m l ∧ m ≤ cap ∧ (B = none → cap = 0) := by
  obtain ⟨xs, k, rfl, rfl, hlen, hxs, hf⟩ := DataW.trod_struct Try.underlying43 h
  rw [Try.cells43] at hlen
  match cs, hlen with
  | [v0, v1, v2, v3, v4], _ =>
    have hx5 : xs.length = 5 := by rw [hxs]; rfl
    match xs, hx5 with
    | [x0, x1, x2, x3, x4], _ =>
      have t0 : DataW.trod enc Try.prog w base spare held k 3 (([v0, v1, v2, v3, v4].drop 0).take (Try.prog.cellsOf 3)) = some x0 := hf 0 _ rfl
      rw [Try.cells3] at t0
      have t1 : DataW.trod enc Try.prog w base spare held k 3 (([v0, v1, v2, v3, v4].drop 1).take (Try.prog.cellsOf 3)) = some x1 := hf 1 _ rfl
      rw [Try.cells3] at t1
      have t2 : DataW.trod enc Try.prog w base spare held k 3 (([v0, v1, v2, v3, v4].drop 2).take (Try.prog.cellsOf 3)) = some x2 := hf 2 _ rfl
      rw [Try.cells3] at t2
      have t3 : DataW.trod enc Try.prog w base spare held k 3 (([v0, v1, v2, v3, v4].drop 3).take (Try.prog.cellsOf 3)) = some x3 := hf 3 _ rfl
      rw [Try.cells3] at t3
      have t4 : DataW.trod enc Try.prog w base spare held k 23 (([v0, v1, v2, v3, v4].drop 4).take (Try.prog.cellsOf 23)) = some x4 := hf 4 _ rfl
      rw [Try.cells23] at t4
      obtain ⟨a, rfl⟩ := int_of (v := v0) (y := x0) t0
      obtain ⟨b, rfl⟩ := int_of (v := v1) (y := x1) t1
      obtain ⟨c, rfl⟩ := int_of (v := v2) (y := x2) t2
      obtain ⟨d, rfl⟩ := int_of (v := v3) (y := x3) t3
      obtain ⟨B, m, cap, l, e, h1, h2, _, h4⟩ := open_Ic (cs := [v4]) (y := x4) t4
      have e' : v4 = .slice B m cap := by simpa using e
      subst e'
      exact ⟨a, b, c, d, B, m, cap, l, rfl, h1, h2, h4⟩
set_option maxRecDepth 100000 in
theorem open_J {r : Reach} {b0 : Nat} {v : Value} {d : DataW H} {p : List MemPlace} (hv : Value.okWide Try.prog w r b0 22 v) (h : DataW.Trod enc Try.prog w base spare held 22 v d p) :
    ∃ (A : Option Addr) (n cap : Nat) (l : List Jb), v = .slice A n cap ∧ JobsA w A n l ∧ n ≤ cap ∧ cap ≤ maxLen ∧ (A = none → cap = 0) := by
  obtain ⟨A, n, cap, rfl⟩ := okWide_slice Try.underlying22 hv
  obtain ⟨fuel, hf⟩ := h
  rcases open_slice Try.underlying22 hf with ⟨h0, _⟩ | ⟨a, len, cap', m, k, D, Pl, hcs, hb, hl, hm, hmm, _, hi⟩
  · simp [Value.cells] at h0
    obtain ⟨rfl, rfl, rfl⟩ := h0
    exact ⟨none, 0, 0, [], rfl, ⟨rfl, fun h => absurd h (by omega)⟩, Nat.le_refl _, Nat.zero_le _, fun _ => rfl⟩
  · simp [Value.cells] at hcs
    obtain ⟨rfl, rfl, rfl⟩ := hcs
    have hlm : n ≤ m := by rw [hmm]; split <;> omega
    rw [Try.cells43] at hi
    obtain ⟨f, hf0⟩ := choose_lt (α := Jb) (n := n) (p := fun i j => JobAny w (a.add (i * 5)) j) (fun i hi' => by
      obtain ⟨cs', h1, h2⟩ := hi i (by omega)
      obtain ⟨x0, x1, x2, x3, B, q, cp, l, rfl, g1, g2, g3⟩ := job_of h2
      obtain ⟨_, _, hc⟩ := World.cells?_some h1
      have c0 := hc 0 (by omega)
      have c1 := hc 1 (by omega)
      have c2 := hc 2 (by omega)
      have c3 := hc 3 (by omega)
      have c4 := hc 4 (by omega)
      rw [Addr.add_add] at c0 c1 c2 c3 c4
      refine ⟨⟨x0, x1, x2, x3, l⟩, c0, ?_, ?_, ?_, B, q, cp, ?_, g1, g2, g3⟩
      · rw [add_off _ 1 (by omega)]; exact c1
      · rw [add_off _ 2 (by omega)]; exact c2
      · rw [add_off _ 3 (by omega)]; exact c3
      · rw [add_off _ 4 (by omega)]; exact c4)
    refine ⟨some a, n, cap, (List.range n).map f, rfl, ⟨by simp, fun hn => ⟨a, rfl, ?_, fun k j hk => ?_⟩⟩, hl, hm, fun h => by cases h⟩
    · have := World.block_lt_of_cell? _ _ (hf0 0 hn).1
      rwa [add_block] at this
    · have hkn : k < n := by
        have := (List.getElem?_eq_some_iff.1 hk).1
        simpa using this
      rw [List.getElem?_map, List.getElem?_range hkn] at hk
      simp at hk
      subst hk
      exact hf0 k hkn
end
end Go.Proofs.Ytnfcigbiebbjdaa
