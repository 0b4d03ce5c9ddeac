/-
  Proved: DialDates: Number, Weekday and Date compute with dates as the reference does, or return ErrArg.
  Conditions: none.
-/
import Derived.Test.YtjlnkghjiaglmaaOpens
import Derived.Test.YtjlnkghjiaglmaaLives
import Derived.Test.YtjlnkghjiaglmaaDates4
namespace Go.Proofs.Ytjlnkghjiaglmaa.dialDates
open Go.ChangeShapes Go.WideShapes Go.ChangeAt Go.RowKit

/-- What Date of a number returns, of either side. -/
theorem dates_of (n : Int) : ∃ (y m d : Int) (g : Int) (b : Bool), ((g = 0 ∧ b = true) ∨ (g = 1 ∧ b = false)) ∧
    (∀ w : World, Calls Try.prog 43 #[.int .i64 n] w fun e w' => e = .returned (.tuple #[D3 y m d, .int .i64 g]) ∧ Below w.heap.size w w') ∧
    (∀ w : World, Calls Try.prog 46 #[.int .i64 n] w fun e w' => e = .returned (.tuple #[D3 y m d, .bool b]) ∧ Below w.heap.size w w') := by
  by_cases h : 0 ≤ n ∧ n ≤ 3652058
  · obtain ⟨y, m, d, hok, rfl⟩ := Cal.exists_date n h.1 h.2
    exact ⟨y, m, d, 0, true, .inl ⟨rfl, rfl⟩, fun w => Date_yes y m d w hok, fun w => rDate_yes y m d w hok⟩
  · exact ⟨0, 0, 0, 1, false, .inr ⟨rfl, rfl⟩, fun w => Date_no n w h, fun w => rDate_no n w h⟩

set_option maxHeartbeats 1000000 in
theorem walk (y m d a1 : Int) (w : World) :
    Calls Try.prog 10 #[D3 y m d, .int .i64 a1] w fun e w' => e = .returned (.bool true) ∧ Below w.heap.size w w' := by
  obtain ⟨Y, M, D, g, b, hg, cD, cR⟩ := dates_of a1
  have CD := Lib.hid cD; have CR := Lib.hid cR
  clear cD cR
  have hD0 := Blk.new w 30 #[.int .i64 y, .int .i64 m, .int .i64 d]
  by_cases hok : Cal.ok y m d
  · have HO := Lib.hid hok
    clear hok
    rcases hg with ⟨rfl, rfl⟩ | ⟨rfl, rfl⟩
    all_goals
      go_enter Try.func10, Try.ntmps10
      go_wp2_with fail
      refine (Number_yes y m d _ HO.out).mono ?_; rintro e w1 ⟨rfl, hb1⟩
      have hD1 := hD0.later hb1
      have k1 := hD1.cell
      have l1 := hD1.lt
      go_wp2_with fail
      refine (Weekday_yes y m d _ HO.out).mono ?_; rintro e w2 ⟨rfl, hb2⟩
      have hD2 := hD1.later hb2
      have k2 := hD2.cell
      have l2 := hD2.lt
      clear k1
      go_wp2_with fail
      refine (CD.out _).mono ?_; rintro e w3 ⟨rfl, hb3⟩
      have hD3 := hD2.later hb3
      have k3 := hD3.cell
      have l3 := hD3.lt
      clear k2
      go_wp2_with fail
      refine (rValid_yes y m d _ HO.out).mono ?_; rintro e w4 ⟨rfl, hb4⟩
      have hD4 := (hD3.alloc _).later hb4
      have hE4 := (Blk.new w3 30 #[.int .i64 Y, .int .i64 M, .int .i64 D]).later hb4
      have k4 := hD4.cell
      have l4 := hD4.lt
      have s1 := hb1.size
      have s2 := hb2.size
      have s3 := hb3.size
      have s4 := hb4.size
      simp at s1 s4
      have t4 : Below w.heap.size w w4 := ((((((Below.refl _ _).alloc (Nat.le_refl _) _).trans (hb1.mono (by simp))).trans (hb2.mono (by omega))).trans (hb3.mono (by omega))).alloc (by omega) _).trans (hb4.mono (by simp; omega))
      clear k3
      go_wp2_with fail
      refine (rNumber_any y m d _ HO.out).mono ?_; rintro e w5 ⟨rfl, hb5⟩
      have hD5 := hD4.later hb5
      have k5 := hD5.cell
      have l5 := hD5.lt
      clear k4
      go_wp2_with fail
      refine (rWeekday_any y m d _ HO.out).mono ?_; rintro e w6 ⟨rfl, hb6⟩
      have hE6 := (hE4.later hb5).later hb6
      have l6 := hE6.lt
      clear k5
      go_wp2_with fail
      refine (CR.out _).mono ?_; rintro e w7 ⟨rfl, hb7⟩
      have hE7 := hE6.later hb7
      have k7 := hE7.cell
      have l7 := hE7.lt
      go_wp2_with (go_at_call 23; refine (lives_any _).mono ?_; rintro e w8 ⟨rfl, hb8⟩)
      go_ret
      refine ⟨rfl, ?_⟩
      have s5 := hb5.size
      have s6 := hb6.size
      have s7 := hb7.size
      exact (((((t4.trans (hb5.mono (by omega))).trans (hb6.mono (by omega))).trans (hb7.mono (by omega)))).alloc (by omega) _).trans (hb8.mono (by simp; omega))
  · have HO := Lib.hid hok
    clear hok
    rcases hg with ⟨rfl, rfl⟩ | ⟨rfl, rfl⟩
    all_goals
      go_enter Try.func10, Try.ntmps10
      go_wp2_with fail
      refine (Number_no y m d _ HO.out).mono ?_; rintro e w1 ⟨rfl, hb1⟩
      have hD1 := hD0.later hb1
      have k1 := hD1.cell
      have l1 := hD1.lt
      go_wp2_with fail
      refine (Weekday_no y m d _ HO.out).mono ?_; rintro e w2 ⟨rfl, hb2⟩
      have hD2 := hD1.later hb2
      have k2 := hD2.cell
      have l2 := hD2.lt
      clear k1
      go_wp2_with fail
      refine (CD.out _).mono ?_; rintro e w3 ⟨rfl, hb3⟩
      have hD3 := hD2.later hb3
      have k3 := hD3.cell
      have l3 := hD3.lt
      clear k2
      go_wp2_with fail
      refine (rValid_no y m d _ HO.out).mono ?_; rintro e w4 ⟨rfl, hb4⟩
      have hD4 := (hD3.alloc _).later hb4
      have hE4 := (Blk.new w3 30 #[.int .i64 Y, .int .i64 M, .int .i64 D]).later hb4
      have l4 := hD4.lt
      have l4' := hE4.lt
      have s1 := hb1.size
      have s2 := hb2.size
      have s3 := hb3.size
      have s4 := hb4.size
      simp at s1 s4
      have t4 : Below w.heap.size w w4 := ((((((Below.refl _ _).alloc (Nat.le_refl _) _).trans (hb1.mono (by simp))).trans (hb2.mono (by omega))).trans (hb3.mono (by omega))).alloc (by omega) _).trans (hb4.mono (by simp; omega))
      clear k3
      go_wp2_with fail
      refine (CR.out _).mono ?_; rintro e w7 ⟨rfl, hb7⟩
      have hE7 := hE4.later hb7
      have k7 := hE7.cell
      have l7 := hE7.lt
      go_wp2_with (go_at_call 23; refine (lives_any _).mono ?_; rintro e w8 ⟨rfl, hb8⟩)
      go_ret
      refine ⟨rfl, ?_⟩
      have s7 := hb7.size
      exact ((((t4.trans (hb7.mono (by omega)))).alloc (by omega) _)).trans (hb8.mono (by simp; omega))

set_option maxRecDepth 100000 in
theorem lifted (os : Os) (started : os.Started) (H : Type) (enc : TypeId × Value → H) :
    ReturnsInHanded {} Try.checked os 10 .any (Rows.dialDatesSpec.pre6 enc Try.prog Try.f10 Rows.dialDatesRow.domain false) (Rows.dialDatesSpec.post enc Try.prog Try.f10 false true false false) := by
  refine returnsInHanded_of_change (C := Try.checked) Try.own started (by kernel_rfl) Try.func10
    (ChangeSpec.witness6 (enc := enc) (C := Try.checked) false ⟨#[], #[.agg #[.int .i64 0, .int .i64 0, .int .i64 0], .int .i64 0], []⟩ 8 (by kernel_rfl) (by kernel_rfl) (by kernel_rfl) (by kernel_rfl)) ?_
  intro W base args ds gs before hval0 hW hcnd _
  have hval : ∀ (j : Nat) t v, Try.f10.params[j]? = some t → args[j]? = some v → Value.okWide Try.prog W .any base t v := hval0
  have hW' := hW
  obtain ⟨p, q, hA0, hV, rfl, hfz, hnd⟩ := hW
  have hA : DataW.TrodAll enc Try.prog W 0 (fun _ => true) true Try.f10.params.toList args.toList ds p := hA0
  rw [Try.params10] at hA hval
  obtain ⟨v0, vs0, d0, ds0, p0, q0, hargs, rfl, rfl, h0, r0⟩ := trodAll_cons hA
  obtain ⟨v1, vs1, d1, ds1, p1, q1, rfl, rfl, rfl, h1, r1⟩ := trodAll_cons r0
  obtain ⟨rfl, rfl, rfl⟩ := trodAll_nil r1
  obtain rfl : args = #[v0, v1] := by cases args; simp_all
  obtain ⟨rfl, rfl⟩ := trodVars_none hV
  obtain ⟨a00, a01, a02, rfl⟩ := open_D (hval 0 30 v0 rfl rfl) h0
  obtain ⟨a1, rfl, rfl, rfl, w1⟩ := open_int Try.underlying3 (hval 1 3 v1 rfl rfl) h1
  refine (walk a00 a01 a02 a1 W).mono fun e W' ⟨he, hb⟩ => ?_
  exact ⟨_, he, law_post rfl (by kernel_rfl) (by kernel_rfl) hW' rfl rfl rfl hb⟩

set_option maxRecDepth 100000 in
theorem facts : joinedFacts Try.prog 10 Try.f10 Rows.dialDatesSpec Rows.dialDatesRow = true := by
  unfold joinedFacts
  repeat' (with_reducible refine and_t ?_ ?_)
  all_goals first
    | with_reducible exact Try.enters
    | (rw [Try.finals]; as_aux_lemma => kernel_rfl)
    | (rw [Try.made]; as_aux_lemma => kernel_rfl)
    | (as_aux_lemma => kernel_rfl)

theorem proved : Rows.DialDatesSaid :=
  OpenClaim.holds_of_wide 10 Try.f10 rfl rfl rfl rfl rfl rfl rfl ⟨rfl, rfl, rfl, rfl, rfl⟩ rfl rfl rfl rfl rfl (by as_aux_lemma => kernel_rfl) Try.func10 facts
    (of_decide_eq_true (by as_aux_lemma => kernel_rfl)) (by unfold Func.isWrapper; rw [if_neg (of_decide_eq_false (by kernel_rfl))]; exact ⟨rfl, rfl⟩)
    (fun os started H enc _ => lifted os started H enc)
#print axioms proved
end Go.Proofs.Ytjlnkghjiaglmaa.dialDates
