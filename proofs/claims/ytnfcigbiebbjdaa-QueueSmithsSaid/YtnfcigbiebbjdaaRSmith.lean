/-
  Smith's order as the document makes it.
  Conditions: the jobs are valid; the slices start at the heads of blocks.
-/
import Derived.Test.YtnfcigbiebbjdaaCheckN
namespace Go.Proofs.Ytnfcigbiebbjdaa
open Go.RowKit

theorem Swo.anti {cf : Int → Int → Int} {x y : Int} (h1 : leOf cf x y) (h2 : leOf cf y x) : x = y := by
  obtain ⟨a1, a2⟩ := h1
  obtain ⟨b1, b2⟩ := h2
  rcases a2 with a2 | a2
  · exact absurd a2 b1
  · rcases b2 with b2 | b2
    · exact absurd b2 a1
    · omega
theorem sorted_uniq {le : Int → Int → Prop} (hanti : ∀ x y, le x y → le y x → x = y) : ∀ {p q : List Int}, p.Perm q → p.Pairwise le → q.Pairwise le → p = q
  | [], q, h, _, _ => (List.nil_perm.1 h).symm
  | a :: p, [], h, _, _ => by have := h.length_eq; simp at this
  | a :: p, b :: q, h, h1, h2 => by
    have h1' := List.pairwise_cons.1 h1
    have h2' := List.pairwise_cons.1 h2
    have e : a = b := by
      have ha : a ∈ b :: q := h.mem_iff.1 (by simp)
      have hb : b ∈ a :: p := h.mem_iff.2 (by simp)
      rcases List.mem_cons.1 ha with e | ha
      · exact e
      · rcases List.mem_cons.1 hb with e | hb
        · exact e.symm
        · exact hanti a b (h1'.1 b hb) (h2'.1 a ha)
    subst e
    rw [sorted_uniq hanti (List.Perm.cons_inv h) h1'.2 h2'.2]
theorem ins_next {cf : Int → Int → Int} (S : Swo cf) {o : List Int} {k : Nat} {q : Nat} (hP : o.Perm (nums k)) (hS : o.Pairwise (leOf cf)) (h1 : ∀ z ∈ o.take q, ¬ cf k z < 0) (h2 : ∀ z, o[q]? = some z → cf k z < 0) :
    (o.take q ++ (k : Int) :: o.drop q).Perm (nums (k + 1)) ∧ (o.take q ++ (k : Int) :: o.drop q).Pairwise (leOf cf) := by
  constructor
  · refine (List.perm_middle.trans (List.Perm.cons _ (by rw [List.take_append_drop]))).trans ?_
    rw [nums_succ]
    exact (List.Perm.cons _ hP).trans (List.perm_append_comm (l₁ := [(k : Int)]))
  · have hlt : ∀ z ∈ o, z < (k : Int) := fun z hz => (mem_nums.1 (hP.mem_iff.1 hz)).2
    refine ins_sorted (by rw [List.take_append_drop]; exact hS) (fun s hs => ?_) (fun s hs => ⟨h1 s hs, .inr (Int.le_of_lt (hlt s (List.mem_of_mem_take hs)))⟩)
    have hql : q < o.length := by
      rcases Nat.lt_or_ge q o.length with h | h
      · exact h
      · rw [List.drop_of_length_le h] at hs; simp at hs
    have hc := h2 _ (List.getElem?_eq_getElem hql)
    have hle : leOf cf k o[q] := ⟨S.asymm _ _ hc, .inl hc⟩
    rw [List.drop_eq_getElem_cons hql] at hs
    rcases List.mem_cons.1 hs with rfl | hs
    · exact hle
    · have hd : (o[q] :: o.drop (q + 1)).Pairwise (leOf cf) := by
        rw [← List.drop_eq_getElem_cons hql]
        exact hS.drop
      exact S.tot.trans _ _ _ hle ((List.pairwise_cons.1 hd).1 s hs)

set_option maxHeartbeats 1000000 in
theorem smaller_any (x y : Jb) (u v : Value) (w : World) (hx : Tame x) (hy : Tame y) :
    Calls Try.prog 63 #[.agg #[.int .i64 x.work, .int .i64 x.rel, .int .i64 x.due, .int .i64 x.wt, u], .agg #[.int .i64 y.work, .int .i64 y.rel, .int .i64 y.due, .int .i64 y.wt, v]] w fun e w' => e = .returned (.bool (smallB x y)) ∧ Below w.heap.size w w' := by
  have hb : Below w.heap.size w ((w.alloc (.cells #[.int .i64 x.work, .int .i64 x.rel, .int .i64 x.due, .int .i64 x.wt, u] 43)).alloc (.cells #[.int .i64 y.work, .int .i64 y.rel, .int .i64 y.due, .int .i64 y.wt, v] 43)) := ((Below.refl _ _).alloc (Nat.le_refl _) _).alloc (by simp) _
  obtain ⟨p0, p1, a0, a1⟩ := hx
  obtain ⟨q0, q1, b0, b1⟩ := hy
  have HS : Hid (smallB x y = if x.wt = 0 ∨ y.wt = 0 then decide (0 < x.wt ∧ y.wt = 0) else decide (x.work * y.wt < y.work * x.wt)) := rfl
  generalize smallB x y = s at *
  generalize x.work = p at *
  generalize x.wt = a at *
  generalize y.work = q at *
  generalize y.wt = b at *
  by_cases h1 : a = 0
  · have e : Hid (s = false) := by show _ = _; rw [HS.out, if_pos (.inl h1), h1]; simp
    clear HS
    subst h1
    go_enter Try.func63, Try.ntmps63
    go_wp2
    go_ret
    exact ⟨by rw [e.out]; rfl, hb⟩
  · have c1 : (a == 0) = false := by simpa using h1
    have c2 : decide (a > 0) = true := by simp; omega
    have c3 : 0 < a := by omega
    by_cases h2 : b = 0
    · have e : Hid (s = true) := by show _ = _; rw [HS.out, if_pos (.inr h2), h2]; simp; omega
      clear HS
      subst h2
      go_enter Try.func63, Try.ntmps63
      go_wp2
      go_ret
      exact ⟨by rw [e.out]; rfl, hb⟩
    · have c4 : (b == 0) = false := by simpa using h2
      have m1 : 0 ≤ p * b := Int.mul_nonneg p0 b0
      have m2 : p * b ≤ 10000 * 1000 := Int.mul_le_mul p1 b1 b0 (by omega)
      have m3 : 0 ≤ q * a := Int.mul_nonneg q0 a0
      have m4 : q * a ≤ 10000 * 1000 := Int.mul_le_mul q1 a1 a0 (by omega)
      have e : Hid (s = decide (p * b < q * a)) := by show _ = _; rw [HS.out, if_neg (by omega)]
      clear HS
      go_enter Try.func63, Try.ntmps63
      go_wp2
      go_ret
      exact ⟨by rw [e.out]; rfl, hb⟩
end Go.Proofs.Ytnfcigbiebbjdaa
