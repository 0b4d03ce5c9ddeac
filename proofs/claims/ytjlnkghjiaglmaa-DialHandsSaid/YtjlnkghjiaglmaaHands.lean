/-
  Proved: DialHands: for every number of eighths Hands returns the positions of the hands, or ErrArg.
  Conditions: none.
-/
import Derived.Test.YtjlnkghjiaglmaaOpens
import Derived.Test.YtjlnkghjiaglmaaLives
namespace Go.Proofs.Ytjlnkghjiaglmaa.dialHands
open Go.ChangeShapes Go.WideShapes Go.ChangeAt Go.RowKit

set_option maxHeartbeats 400000 in
theorem Hands_yes (n : Int) (w : World) (h1 : 0 ≤ n) (h2 : n ≤ 1000000000) :
    Calls Try.prog 31 #[.int .i64 n] w fun e w' => e = .returned (.tuple #[.int .i64 (n % 480), .int .i64 (n / 480 % 30), .int .i64 (n / 28800 % 12), .int .i64 0]) ∧ w = w' := by
  go_enter Try.func31, Try.ntmps31
  go_wp2
  refine bodyPost_ret (results_tmp4 rfl _ _ _) rfl ?_
  exact ⟨rfl, rfl⟩
set_option maxHeartbeats 400000 in
theorem Hands_no (n : Int) (w : World) (h : ¬ (0 ≤ n ∧ n ≤ 1000000000)) :
    Calls Try.prog 31 #[.int .i64 n] w fun e w' => e = .returned (.tuple #[.int .i64 0, .int .i64 0, .int .i64 0, .int .i64 1]) ∧ w = w' := by
  by_cases h1 : 0 ≤ n
  · have h2 : 1000000000 < n := by omega
    clear h
    go_enter Try.func31, Try.ntmps31
    go_wp2
    refine bodyPost_ret (results_tmp4 rfl _ _ _) rfl ?_
    exact ⟨rfl, rfl⟩
  · clear h
    go_enter Try.func31, Try.ntmps31
    go_wp2
    refine bodyPost_ret (results_tmp4 rfl _ _ _) rfl ?_
    exact ⟨rfl, rfl⟩

theorem left1 (n : Int) : n % 480 = n % 345600 % 480 := by omega
theorem left2 (n : Int) : n / 480 % 30 = n % 345600 / 480 % 30 := by omega
theorem left3 (n : Int) : n / 28800 % 12 = n % 345600 / 28800 := by omega

set_option maxHeartbeats 1000000 in
theorem walk (a0 : Int) (w : World) :
    Calls Try.prog 6 #[.int .i64 a0] w fun e w' => e = .returned (.bool true) ∧ Below w.heap.size w w' := by
  by_cases h1 : 0 ≤ a0
  · by_cases h2 : a0 ≤ 1000000000
    · have e1 : (a0 % 480 == a0 % 345600 % 480) = true := beq_iff_eq.2 (left1 a0)
      have e2 : (a0 / 480 % 30 == a0 % 345600 / 480 % 30) = true := beq_iff_eq.2 (left2 a0)
      have e3 : (a0 / 28800 % 12 == a0 % 345600 / 28800) = true := beq_iff_eq.2 (left3 a0)
      go_enter Try.func6, Try.ntmps6
      go_wp2_with (first
        | (go_at_call 31; refine (Hands_yes _ _ h1 h2).mono ?_; rintro e w' ⟨rfl, rfl⟩)
        | (go_at_call 23; refine (lives_any _).mono ?_; rintro e w2 ⟨rfl, hb2⟩))
      go_ret
      exact ⟨ret_bool (by simp), hb2⟩
    · have h3 : 1000000000 < a0 := by omega
      have H := Lib.hid (show ¬ (0 ≤ a0 ∧ a0 ≤ 1000000000) by omega)
      go_enter Try.func6, Try.ntmps6
      go_wp2_with (first
        | (go_at_call 31; refine (Hands_no _ _ H.out).mono ?_; rintro e w' ⟨rfl, rfl⟩)
        | (go_at_call 23; refine (lives_any _).mono ?_; rintro e w2 ⟨rfl, hb2⟩))
      go_ret
      exact ⟨rfl, hb2⟩
  · have H := Lib.hid (show ¬ (0 ≤ a0 ∧ a0 ≤ 1000000000) by omega)
    go_enter Try.func6, Try.ntmps6
    go_wp2_with (first
      | (go_at_call 31; refine (Hands_no _ _ H.out).mono ?_; rintro e w' ⟨rfl, rfl⟩)
      | (go_at_call 23; refine (lives_any _).mono ?_; rintro e w2 ⟨rfl, hb2⟩))
    go_ret
    exact ⟨rfl, hb2⟩

set_option maxRecDepth 100000 in
theorem lifted (os : Os) (started : os.Started) (H : Type) (enc : TypeId × Value → H) :
    ReturnsInHanded {} Try.checked os 6 .any (Rows.dialHandsSpec.pre6 enc Try.prog Try.f6 Rows.dialHandsRow.domain false) (Rows.dialHandsSpec.post enc Try.prog Try.f6 false true false false) := by
  refine returnsInHanded_of_change (C := Try.checked) Try.own started (by kernel_rfl) Try.func6
    (ChangeSpec.witness6 (enc := enc) (C := Try.checked) false ⟨#[], #[.int .i64 0], []⟩ 8 (by kernel_rfl) (by kernel_rfl) (by kernel_rfl) (by kernel_rfl)) ?_
  intro W base args ds gs before hval0 hW hcnd _
  have hval : ∀ (j : Nat) t v, Try.f6.params[j]? = some t → args[j]? = some v → Value.okWide Try.prog W .any base t v := hval0
  have hW' := hW
  obtain ⟨p, q, hA0, hV, rfl, hfz, hnd⟩ := hW
  have hA : DataW.TrodAll enc Try.prog W 0 (fun _ => true) true Try.f6.params.toList args.toList ds p := hA0
  rw [Try.params6] at hA hval
  obtain ⟨v0, vs0, d0, ds0, p0, q0, hargs, rfl, rfl, h0, r0⟩ := trodAll_cons hA
  obtain ⟨rfl, rfl, rfl⟩ := trodAll_nil r0
  obtain rfl : args = #[v0] := by cases args; simp_all
  obtain ⟨rfl, rfl⟩ := trodVars_none hV
  obtain ⟨a0, rfl, rfl, rfl, w0⟩ := open_int Try.underlying3 (hval 0 3 v0 rfl rfl) h0
  refine (walk a0 W).mono fun e W' ⟨he, hb⟩ => ?_
  exact ⟨_, he, law_post rfl (by kernel_rfl) (by kernel_rfl) hW' rfl rfl rfl hb⟩

set_option maxRecDepth 100000 in
theorem facts : joinedFacts Try.prog 6 Try.f6 Rows.dialHandsSpec Rows.dialHandsRow = true := by
  unfold joinedFacts
  repeat' (with_reducible refine and_t ?_ ?_)
  all_goals first
    | with_reducible exact Try.enters
    | (rw [Try.finals]; as_aux_lemma => kernel_rfl)
    | (rw [Try.made]; as_aux_lemma => kernel_rfl)
    | (as_aux_lemma => kernel_rfl)

theorem proved : Rows.DialHandsSaid :=
  OpenClaim.holds_of_wide 6 Try.f6 rfl rfl rfl rfl rfl rfl rfl ⟨rfl, rfl, rfl, rfl, rfl⟩ rfl rfl rfl rfl rfl (by as_aux_lemma => kernel_rfl) Try.func6 facts
    (of_decide_eq_true (by as_aux_lemma => kernel_rfl)) (by unfold Func.isWrapper; rw [if_neg (of_decide_eq_false (by kernel_rfl))]; exact ⟨rfl, rfl⟩)
    (fun os started H enc _ => lifted os started H enc)
#print axioms proved
end Go.Proofs.Ytjlnkghjiaglmaa.dialHands
