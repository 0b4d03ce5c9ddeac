/-
  Proved: QueueMore: a job more never makes the lateness of Sweep less (of one job and more), the number of OnTime less, or the Length of Johnson less (U6).
  Conditions: none.
-/
import Derived.Test.YtnfcigbiebbjdaaG10
import Derived.Test.YtnfcigbiebbjdaaOpenS
import Derived.Test.YtnfcigbiebbjdaaMoreW
namespace Go.Proofs.Ytnfcigbiebbjdaa.queueMore
open Go.ChangeShapes Go.WideShapes Go.ChangeAt Go.RowKit

theorem walk (A : Option Addr) (n c : Nat) (ja jb jc jd : Int) (ju : Value) (ta tb : Int) (x : List Jb) (w : World) (rA : JobsA w A n x) (hc : n ≤ c) (hnil : A = none → c = 0) :
    Calls Try.prog 15 #[.slice A n c, .agg #[.int .i64 ja, .int .i64 jb, .int .i64 jc, .int .i64 jd, ju], .agg #[.int .i64 ta, .int .i64 tb]] w fun e w' => e = .returned (.bool true) ∧ Below w.heap.size w w' := Go.Proofs.Ytnfcigbiebbjdaa.walkMore A n c ja jb jc jd ju ta tb x w rA hc hnil

set_option maxRecDepth 100000 in
theorem lifted (os : Os) (started : os.Started) (H : Type) (enc : TypeId × Value → H) :
    ReturnsInHanded {} Try.checked os 15 .any (Rows.queueMoreSpec.pre6 enc Try.prog Try.f15 Rows.queueMoreRow.domain false) (Rows.queueMoreSpec.post enc Try.prog Try.f15 false true false false) := by
  refine returnsInHanded_of_change (C := Try.checked) Try.own started (by kernel_rfl) Try.func15
    (ChangeSpec.witness6 (enc := enc) (C := Try.checked) false ⟨#[], #[.slice none 0 0, .agg #[.int .i64 0, .int .i64 0, .int .i64 0, .int .i64 0, .slice none 0 0], .agg #[.int .i64 0, .int .i64 0]], []⟩ 8 (by kernel_rfl) (by kernel_rfl) (by kernel_rfl) (by kernel_rfl)) ?_
  intro W base args ds gs before hval0 hW hcnd _
  have hval : ∀ (j : Nat) t v, Try.f15.params[j]? = some t → args[j]? = some v → Value.okWide Try.prog W .any base t v := hval0
  have hW' := hW
  obtain ⟨p, q, hA0, hV, rfl, hfz, hnd⟩ := hW
  have hA : DataW.TrodAll enc Try.prog W 0 (fun _ => true) true Try.f15.params.toList args.toList ds p := hA0
  rw [Try.params15] at hA hval
  obtain ⟨v0, vs0, d0, ds0, p0, q0, hargs, rfl, rfl, h0, r0⟩ := trodAll_cons hA
  obtain ⟨v1, vs1, d1, ds1, p1, q1, rfl, rfl, rfl, h1, r1⟩ := trodAll_cons r0
  obtain ⟨v2, vs2, d2, ds2, p2, q2, rfl, rfl, rfl, h2, r2⟩ := trodAll_cons r1
  obtain ⟨rfl, rfl, rfl⟩ := trodAll_nil r2
  obtain rfl : args = #[v0, v1, v2] := by cases args; simp_all
  obtain ⟨rfl, rfl⟩ := trodVars_none hV
  obtain ⟨A0, n0, c0, l0, rfl, x0, y0, z0, u0⟩ := open_J (hval 0 22 v0 rfl rfl) h0
  obtain ⟨a10, a11, a12, a13, a14, rfl⟩ := open_S (hval 1 43 v1 rfl rfl) h1
  obtain ⟨a20, a21, rfl⟩ := open_T (hval 2 68 v2 rfl rfl) h2
  refine (walk A0 n0 c0 a10 a11 a12 a13 a14 a20 a21 l0 W x0 y0 u0).mono fun e W' ⟨he, hb⟩ => ?_
  exact ⟨_, he, law_post rfl (by kernel_rfl) (by kernel_rfl) hW' rfl rfl rfl hb⟩

set_option maxRecDepth 100000 in
theorem facts : joinedFacts Try.prog 15 Try.f15 Rows.queueMoreSpec Rows.queueMoreRow = true := by
  unfold joinedFacts
  repeat' (with_reducible refine and_t ?_ ?_)
  all_goals first
    | with_reducible exact Try.enters
    | (rw [Try.finals]; as_aux_lemma => kernel_rfl)
    | (rw [Try.made]; as_aux_lemma => kernel_rfl)
    | (as_aux_lemma => kernel_rfl)

theorem proved : Rows.QueueMoreSaid :=
  OpenClaim.holds_of_wide 15 Try.f15 rfl rfl rfl rfl rfl rfl rfl ⟨rfl, rfl, rfl, rfl, rfl⟩ rfl rfl rfl rfl rfl (by as_aux_lemma => kernel_rfl) Try.func15 facts
    (of_decide_eq_true (by as_aux_lemma => kernel_rfl)) (by unfold Func.isWrapper; rw [if_neg (of_decide_eq_false (by kernel_rfl))]; exact ⟨rfl, rfl⟩)
    (fun os started H enc _ => lifted os started H enc)
#print axioms proved
end Go.Proofs.Ytnfcigbiebbjdaa.queueMore
