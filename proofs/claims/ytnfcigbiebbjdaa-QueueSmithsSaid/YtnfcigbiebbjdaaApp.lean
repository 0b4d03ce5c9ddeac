/-
  Integers appended to a slice that is the call's own: none, or some.
  No conditions.
-/
import Derived.Test.YtnfcigbiebbjdaaSort8
import Derived.Test.YtnfcigbiebbjdaaInts2
import Derived.Deep.AppendLies
import Derived.Deep.AppendSrc
import Derived.Deep.Upon
namespace Go.Proofs.Ytnfcigbiebbjdaa
open Go.RowKit

theorem RowH.rowI {w : World} {A : Option Addr} {n : Nat} {l : List Int} (h : RowH w A n l) : RowI w A n l :=
  ⟨h.1, fun hn => by
    obtain ⟨g, e, hg, hc⟩ := h.2 hn
    exact ⟨_, e, hg, fun k v hk => by rw [Addr.add_lit, Nat.zero_add]; exact hc k v hk⟩⟩
theorem ints_one (l : List Int) : ∀ u ∈ l.map (Value.int .i64), u.oneCell' = true := by
  intro u hu
  obtain ⟨x, _, rfl⟩ := List.mem_map.1 hu
  rfl
theorem rowI_news {w : World} {a : Addr} {n : Nat} {l : List Int} (h : RowI w (some a) n l) (hn : 0 < n) : ∀ j u, (l.map (Value.int .i64))[j]? = some u → w.cell? (a.add j) = some u := by
  obtain ⟨a', e, hg, hc⟩ := h.2 hn
  cases e
  intro j u hj
  rw [List.getElem?_map] at hj
  cases hx : l[j]? with
  | none => rw [hx] at hj; simp at hj
  | some x =>
    rw [hx] at hj
    simp at hj
    rw [hc j x hx, hj]
theorem app_ints (w : World) {ops : Array Oper} {rest : List Oper} {o : Oper} {a : Act} {Q : Exit → Act → World → Prop} (hgd : o.guard = none) (s x : Operand)
    (ho : o.op = .call { callee := .builtin .append, args := #[s, x], argTypes := #[23, 23] }) (base : Nat) (v : Value) (n : Nat) (xs : List Int) (hs : a.eval s = v) (hown : w.ownsRow base 3 1 v n (xs.map (Value.int .i64)))
    (ao : Option Addr) (m c : Nat) (l : List Int) (hx : a.eval x = .slice ao m c) (hr : RowI w ao m l) (hn : n + m ≤ 100000) (hbase : base ≤ w.heap.size)
    (h : ∀ v' w', w'.ownsRow base 3 1 v' (n + m) ((xs ++ l).map (Value.int .i64)) → w.grownBy w' v.ownBlock → wpList Try.prog ops Q rest (a.put o.dst v') w') : wpList Try.prog ops Q (o :: rest) a w := by
  obtain ⟨i0, hi, hz0, hz1, hz2⟩ := info_parts info3
  rcases Nat.eq_zero_or_pos m with z | z
  · subst z
    have hl : l = [] := List.eq_nil_of_length_eq_zero hr.1
    subst hl
    have hsrc : Src Try.prog i0.size 23 (.slice ao 0 c) 0 [] w := by
      cases ao with
      | none => exact Src.ofNil w Try.underlying23 c
      | some ad => exact Src.ofSlice w Try.underlying23 ad 0 c [] (by simp) (by simp) (by simp)
    obtain ⟨b, sl, sc, hv, hle⟩ : ∃ b sl sc, v = .slice b sl sc ∧ sl ≤ sc := by
      rcases hown.2 with ⟨h1, _⟩ | ⟨g, cap, cur, h1, _, _, h2, _⟩
      · exact ⟨_, _, _, h1, Nat.le_refl _⟩
      · exact ⟨_, _, _, h1, h2⟩
    have hrun := run_append_nothing (P := Try.prog) w 23 23 o.type 3 i0 Try.underlying23 hi b sl sc hle _ hsrc
    rw [← hv] at hrun
    refine wpList_plain hgd fun K hK => ?_
    unfold Oper.wp
    simp [execOp, ho, resolve, invoke, builtin, hs, hx, hrun, Result.andThen]
    exact hK _ _ (h v w (by simpa using hown) (World.grownBy.refl _ _))
  · obtain ⟨ad, e, _, _⟩ := hr.2 z
    subst e
    refine wpList_append_lies w hgd s x 23 ho base 3 i0 (.int .i64 0) 1 8 Try.underlying23 hi hz0 hz1 hz2 rfl (by decide) v n _ hs hown ad m c (l.map (Value.int .i64)) hx (by rw [List.length_map, hr.1]; omega) (rowI_news hr z) (ints_one _) z (by unfold maxLen; omega) (by omega) hbase _ rfl ?_
    intro g cap w' hown' hgr _ _
    exact h _ _ (by rw [List.map_append]; exact hown') hgr
end Go.Proofs.Ytnfcigbiebbjdaa
