/-
  Proved: DialCycle: 1461 midnights bring the day, the month and the leap back, 7 the weekday, 59 the moon.
  Conditions: none.
-/
import Derived.Test.YtjlnkghjiaglmaaOpens
import Derived.Test.YtjlnkghjiaglmaaLives
import Derived.Test.YtjlnkghjiaglmaaNights
import Derived.Test.YtjlnkghjiaglmaaFaced
import Derived.Test.YtjlnkghjiaglmaaFc2
namespace Go.Proofs.Ytjlnkghjiaglmaa.dialCycle
open Go.ChangeShapes Go.WideShapes Go.ChangeAt Go.RowKit

theorem W_back (o : Int) (h1 : 0 ≤ o) (h2 : o ≤ 6) : (o + ((7 : Nat) : Int)) % 7 = o := by omega
theorem O_back (o : Int) (k j : Nat) (e : k = 59 * j) (h1 : 0 ≤ o) (h2 : o ≤ 58) : (o + (k : Int)) % 59 = o := by omega

set_option maxHeartbeats 2000000 in
theorem walk (D M L W O : Int) (w : World) :
    Calls Try.prog 12 #[.agg #[.int .i64 D, .int .i64 M, .int .i64 L, .int .i64 W, .int .i64 O]] w fun e w' => e = .returned (.bool true) ∧ Below w.heap.size w w' := by
  have hf := fun w => Lib.hid (faced_any ⟨D, M, L, W, O⟩ w)
  have hok := Fc.made_ok ⟨D, M, L, W, O⟩
  generalize Fc.made ⟨D, M, L, W, O⟩ = f at *
  have mid : ∀ (n : Int) (k : Nat), n = (k : Int) → n ≤ 100000 → ∀ w, Hid (Calls Try.prog 50 #[f.val, .int .i64 n] w fun e w' => e = .returned (.tuple #[(Fc.nights k f).val, .int .i64 0]) ∧ Below w.heap.size w w') := by
    intro n k e h w
    subst e
    have t := Midnight_yes f k w hok (by omega) h
    rw [Int.toNat_natCast] at t
    exact t
  have m1' := mid 1461 (1461 * 1) (by omega) (by omega)
  have m2' := mid 7 7 (by omega) (by omega)
  have m3' := mid 59 59 (by omega) (by omega)
  have m4' := mid 86199 (1461 * 59) (by omega) (by omega)
  obtain ⟨p1, p2, p3⟩ := Fc.cycle1461 hok 1
  obtain ⟨q1, q2, q3⟩ := Fc.cycle1461 hok 59
  have w7 := hok.2.2.2.2.2.2
  have r4 := (Fc.nights_W f ⟨w7.1, w7.2.1⟩ 7).trans (W_back f.W w7.1 w7.2.1)
  have r5 := (Fc.nights_O f ⟨w7.2.2.1, w7.2.2.2⟩ 59).trans (O_back f.O 59 1 (by omega) w7.2.2.1 w7.2.2.2)
  have r6 := (Fc.nights_O f ⟨w7.2.2.1, w7.2.2.2⟩ (1461 * 59)).trans (O_back f.O (1461 * 59) 1461 (by omega) w7.2.2.1 w7.2.2.2)
  clear w7
  clear mid hok
  generalize Fc.nights (1461 * 1) f = a at *
  generalize Fc.nights 7 f = b at *
  generalize Fc.nights 59 f = c at *
  generalize Fc.nights (1461 * 59) f = d at *
  obtain ⟨f1, f2, f3, f4, f5⟩ := f
  obtain ⟨a1, a2, a3, a4, a5⟩ := a
  obtain ⟨b1, b2, b3, b4, b5⟩ := b
  obtain ⟨c1, c2, c3, c4, c5⟩ := c
  obtain ⟨d1, d2, d3, d4, d5⟩ := d
  simp only at p1 p2 p3 q1 q2 q3 r4 r5 r6
  replace p1 := p1.symm; replace p2 := p2.symm; replace p3 := p3.symm; replace r4 := r4.symm; replace r5 := r5.symm; replace q1 := q1.symm; replace q3 := q3.symm; replace q2 := q2.symm; replace r6 := r6.symm
  subst p1; subst p2; subst p3; subst r4; subst r5; subst q1; subst q2; subst q3; subst r6
  have HF := Lib.hid hf; have M1 := Lib.hid m1'; have M2 := Lib.hid m2'; have M3 := Lib.hid m3'; have M4 := Lib.hid m4'
  clear hf m1' m2' m3' m4'
  go_enter Try.func12, Try.ntmps12
  go_wp2_with fail
  refine (HF.out _).out.mono ?_; rintro e w1 ⟨rfl, hb1⟩
  have s1 := hb1.size
  simp at s1
  go_wp2_with fail
  refine (M1.out _).out.mono ?_; rintro e w2 ⟨rfl, hb2⟩
  have hF2 := (Blk.new w1 52 (Fc.cells ⟨f1, f2, f3, f4, f5⟩)).later hb2
  have l2 := hF2.lt
  have k2 := hF2.cell
  go_wp2_with fail
  refine (M2.out _).out.mono ?_; rintro e w3 ⟨rfl, hb3⟩
  have hF3 := (hF2.alloc _).later hb3
  have hA3 := (Blk.new w2 52 (Fc.cells ⟨f1, f2, f3, a4, a5⟩)).later hb3
  have l3 := hF3.lt
  have k3 := hF3.cell
  have s3 := hb3.size
  simp at s3
  clear k2
  go_wp2_with fail
  refine (M3.out _).out.mono ?_; rintro e w4 ⟨rfl, hb4⟩
  have hF4 := (hF3.alloc _).later hb4
  have hA4 := (hA3.alloc _).later hb4
  have hB4 := (Blk.new w3 52 (Fc.cells ⟨b1, b2, b3, f4, b5⟩)).later hb4
  have l4 := hF4.lt
  have k4 := hF4.cell
  have s4 := hb4.size
  simp at s4
  clear k3
  go_wp2_with fail
  refine (M4.out _).out.mono ?_; rintro e w5 ⟨rfl, hb5⟩
  have hF5 := (hF4.alloc _).later hb5
  have hA5 := (hA4.alloc _).later hb5
  have hB5 := (hB4.alloc _).later hb5
  have hC5 := (Blk.new w4 52 (Fc.cells ⟨c1, c2, c3, c4, f5⟩)).later hb5
  have l5 := hF5.lt
  have la5 := hA5.lt
  have lb5 := hB5.lt
  have lc5 := hC5.lt
  have s5 := hb5.size
  simp at s5
  clear k4
  have t1 := ((Below.refl w.heap.size w).alloc (Nat.le_refl _) (.cells #[.int .i64 D, .int .i64 M, .int .i64 L, .int .i64 W, .int .i64 O] 52)).trans (hb1.mono (by simp))
  have t2 := (t1.alloc (by omega) (.cells (Fc.cells ⟨f1, f2, f3, f4, f5⟩) 52)).trans (hb2.mono (by simp; omega))
  have t3 := (t2.alloc (by omega) (.cells (Fc.cells ⟨f1, f2, f3, a4, a5⟩) 52)).trans (hb3.mono (by simp; omega))
  have t4 := (t3.alloc (by omega) (.cells (Fc.cells ⟨b1, b2, b3, f4, b5⟩) 52)).trans (hb4.mono (by simp; omega))
  have t5 := (t4.alloc (by omega) (.cells (Fc.cells ⟨c1, c2, c3, c4, f5⟩) 52)).trans (hb5.mono (by simp; omega))
  go_wp2_with fail
  refine (lives_any _).mono ?_; rintro e w6 ⟨rfl, hb6⟩
  have s6 := hb6.size
  simp at s6
  have kf := ((hF5.alloc _).later hb6).cell
  have ka := ((hA5.alloc _).later hb6).cell
  have kb := ((hB5.alloc _).later hb6).cell
  have kc := ((hC5.alloc _).later hb6).cell
  have kd := ((Blk.new w5 52 (Fc.cells ⟨f1, f2, f3, d4, f5⟩)).later hb6).cell
  go_wp2_with fail
  go_ret
  exact ⟨rfl, (t5.alloc (by omega) _).trans (hb6.mono (by simp; omega))⟩

set_option maxRecDepth 100000 in
theorem lifted (os : Os) (started : os.Started) (H : Type) (enc : TypeId × Value → H) :
    ReturnsInHanded {} Try.checked os 12 .any (Rows.dialCycleSpec.pre6 enc Try.prog Try.f12 Rows.dialCycleRow.domain false) (Rows.dialCycleSpec.post enc Try.prog Try.f12 false true false false) := by
  refine returnsInHanded_of_change (C := Try.checked) Try.own started (by kernel_rfl) Try.func12
    (ChangeSpec.witness6 (enc := enc) (C := Try.checked) false ⟨#[], #[.agg #[.int .i64 0, .int .i64 0, .int .i64 0, .int .i64 0, .int .i64 0]], []⟩ 8 (by kernel_rfl) (by kernel_rfl) (by kernel_rfl) (by kernel_rfl)) ?_
  intro W base args ds gs before hval0 hW hcnd _
  have hval : ∀ (j : Nat) t v, Try.f12.params[j]? = some t → args[j]? = some v → Value.okWide Try.prog W .any base t v := hval0
  have hW' := hW
  obtain ⟨p, q, hA0, hV, rfl, hfz, hnd⟩ := hW
  have hA : DataW.TrodAll enc Try.prog W 0 (fun _ => true) true Try.f12.params.toList args.toList ds p := hA0
  rw [Try.params12] at hA hval
  obtain ⟨v0, vs0, d0, ds0, p0, q0, hargs, rfl, rfl, h0, r0⟩ := trodAll_cons hA
  obtain ⟨rfl, rfl, rfl⟩ := trodAll_nil r0
  obtain rfl : args = #[v0] := by cases args; simp_all
  obtain ⟨rfl, rfl⟩ := trodVars_none hV
  obtain ⟨a00, a01, a02, a03, a04, rfl⟩ := open_F (hval 0 52 v0 rfl rfl) h0
  refine (walk a00 a01 a02 a03 a04 W).mono fun e W' ⟨he, hb⟩ => ?_
  exact ⟨_, he, law_post rfl (by kernel_rfl) (by kernel_rfl) hW' rfl rfl rfl hb⟩

set_option maxRecDepth 100000 in
theorem facts : joinedFacts Try.prog 12 Try.f12 Rows.dialCycleSpec Rows.dialCycleRow = true := by
  unfold joinedFacts
  repeat' (with_reducible refine and_t ?_ ?_)
  all_goals first
    | with_reducible exact Try.enters
    | (rw [Try.finals]; as_aux_lemma => kernel_rfl)
    | (rw [Try.made]; as_aux_lemma => kernel_rfl)
    | (as_aux_lemma => kernel_rfl)

theorem proved : Rows.DialCycleSaid :=
  OpenClaim.holds_of_wide 12 Try.f12 rfl rfl rfl rfl rfl rfl rfl ⟨rfl, rfl, rfl, rfl, rfl⟩ rfl rfl rfl rfl rfl (by as_aux_lemma => kernel_rfl) Try.func12 facts
    (of_decide_eq_true (by as_aux_lemma => kernel_rfl)) (by unfold Func.isWrapper; rw [if_neg (of_decide_eq_false (by kernel_rfl))]; exact ⟨rfl, rfl⟩)
    (fun os started H enc _ => lifted os started H enc)
#print axioms proved
end Go.Proofs.Ytjlnkghjiaglmaa.dialCycle
