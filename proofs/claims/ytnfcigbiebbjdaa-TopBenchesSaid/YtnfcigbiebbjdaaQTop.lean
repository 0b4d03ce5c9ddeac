/-
  Proved: TopBenches: without releases the lateness of Sweep is what Lawler's order reaches with weights of 1; it is 0 or less exactly if OnTime does all jobs; Johnson with no time on the second bench is as long as all works (P2).
  Conditions: none.
-/
import Derived.Test.YtnfcigbiebbjdaaG10
import Derived.Test.YtnfcigbiebbjdaaTopW
namespace Go.Proofs.Ytnfcigbiebbjdaa.topBenches
open Go.ChangeShapes Go.WideShapes Go.ChangeAt Go.RowKit

theorem walk (A : Option Addr) (n c : Nat) (x : List Jb) (w : World) (rA : JobsA w A n x) (hc : n ≤ c) (hnil : A = none → c = 0) :
    Calls Try.prog 7 #[.slice A n c] w fun e w' => e = .returned (.bool true) ∧ Below w.heap.size w w' := Go.Proofs.Ytnfcigbiebbjdaa.walkTop A n c x w rA hc hnil

set_option maxRecDepth 100000 in
theorem lifted (os : Os) (started : os.Started) (H : Type) (enc : TypeId × Value → H) :
    ReturnsInHanded {} Try.checked os 7 .any (Rows.topBenchesSpec.pre6 enc Try.prog Try.f7 Rows.topBenchesRow.domain false) (Rows.topBenchesSpec.post enc Try.prog Try.f7 false true false false) := by
  refine returnsInHanded_of_change (C := Try.checked) Try.own started (by kernel_rfl) Try.func7
    (ChangeSpec.witness6 (enc := enc) (C := Try.checked) false ⟨#[], #[.slice none 0 0], []⟩ 8 (by kernel_rfl) (by kernel_rfl) (by kernel_rfl) (by kernel_rfl)) ?_
  intro W base args ds gs before hval0 hW hcnd _
  have hval : ∀ (j : Nat) t v, Try.f7.params[j]? = some t → args[j]? = some v → Value.okWide Try.prog W .any base t v := hval0
  have hW' := hW
  obtain ⟨p, q, hA0, hV, rfl, hfz, hnd⟩ := hW
  have hA : DataW.TrodAll enc Try.prog W 0 (fun _ => true) true Try.f7.params.toList args.toList ds p := hA0
  rw [Try.params7] at hA hval
  obtain ⟨v0, vs0, d0, ds0, p0, q0, hargs, rfl, rfl, h0, r0⟩ := trodAll_cons hA
  obtain ⟨rfl, rfl, rfl⟩ := trodAll_nil r0
  obtain rfl : args = #[v0] := by cases args; simp_all
  obtain ⟨rfl, rfl⟩ := trodVars_none hV
  obtain ⟨A0, n0, c0, l0, rfl, x0, y0, z0, u0⟩ := open_J (hval 0 22 v0 rfl rfl) h0
  refine (walk A0 n0 c0 l0 W x0 y0 u0).mono fun e W' ⟨he, hb⟩ => ?_
  exact ⟨_, he, law_post rfl (by kernel_rfl) (by kernel_rfl) hW' rfl rfl rfl hb⟩

set_option maxRecDepth 100000 in
theorem facts : joinedFacts Try.prog 7 Try.f7 Rows.topBenchesSpec Rows.topBenchesRow = true := by
  unfold joinedFacts
  repeat' (with_reducible refine and_t ?_ ?_)
  all_goals first
    | with_reducible exact Try.enters
    | (rw [Try.finals]; as_aux_lemma => kernel_rfl)
    | (rw [Try.made]; as_aux_lemma => kernel_rfl)
    | (as_aux_lemma => kernel_rfl)

theorem proved : Rows.TopBenchesSaid :=
  OpenClaim.holds_of_wide 7 Try.f7 rfl rfl rfl rfl rfl rfl rfl ⟨rfl, rfl, rfl, rfl, rfl⟩ rfl rfl rfl rfl rfl (by as_aux_lemma => kernel_rfl) Try.func7 facts
    (of_decide_eq_true (by as_aux_lemma => kernel_rfl)) (by unfold Func.isWrapper; rw [if_neg (of_decide_eq_false (by kernel_rfl))]; exact ⟨rfl, rfl⟩)
    (fun os started H enc _ => lifted os started H enc)
#print axioms proved
end Go.Proofs.Ytnfcigbiebbjdaa.topBenches
