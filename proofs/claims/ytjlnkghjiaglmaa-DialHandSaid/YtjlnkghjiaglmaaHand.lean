/-
  Proved: DialHand: each corrector moves its own hands alone; a midnight is a push of the day, the weekday and the moon.
  Conditions: none.
-/
import Derived.Test.YtjlnkghjiaglmaaOpens
import Derived.Test.YtjlnkghjiaglmaaLives
import Derived.Test.YtjlnkghjiaglmaaFaced
import Derived.Test.YtjlnkghjiaglmaaCorr2
import Derived.Test.YtjlnkghjiaglmaaRFace
namespace Go.Proofs.Ytjlnkghjiaglmaa.dialHand
open Go.ChangeShapes Go.WideShapes Go.ChangeAt Go.RowKit

theorem mon_M (f : Fc) (h1 : 1 ≤ f.M) (h2 : f.M ≤ 12) : f.mon.M = f.M % 12 + 1 := by
  unfold Fc.mon
  split
  · show f.M + 1 = _; omega
  · show (1 : Int) = _; omega

set_option maxHeartbeats 2000000 in
theorem walk (D M L W O : Int) (w : World) :
    Calls Try.prog 16 #[.agg #[.int .i64 D, .int .i64 M, .int .i64 L, .int .i64 W, .int .i64 O]] w fun e w' => e = .returned (.bool true) ∧ Below w.heap.size w w' := by
  have hf := fun w => Lib.hid (faced_any ⟨D, M, L, W, O⟩ w)
  have hok := Fc.made_ok ⟨D, M, L, W, O⟩
  generalize Fc.made ⟨D, M, L, W, O⟩ = f at *
  have hd := Fc.day_ok hok
  have m1 := fun w => Lib.hid (Correct_day f w hok)
  have m2 := fun w => Lib.hid (Correct_month f w hok)
  have m3 := fun w => Lib.hid (Correct_weekday f.day w hd)
  have m4 := fun w => Lib.hid (Correct_moon f.day.wday w (Fc.wday_ok hd))
  have m5 : ∀ w, Hid (Calls Try.prog 50 #[f.val, .int .i64 1] w fun e w' => e = .returned (.tuple #[f.day.wday.moon.val, .int .i64 0]) ∧ Below w.heap.size w w') := fun w => Midnight_yes f 1 w hok (by omega) (by omega)
  have m6 := fun w => Lib.hid (rFace_yes f.day w hd)
  have m7 := fun w => Lib.hid (rFace_yes f.pushM w (Fc.pushM_ok hok))
  have e1 : f.W = f.day.W := (Fc.day_W f).symm
  have e2 : f.O = f.day.O := (Fc.day_O f).symm
  have e3 : f.W = f.pushM.W := (Fc.mon_W f).symm
  have e4 : f.O = f.pushM.O := (Fc.mon_O f).symm
  have e5 : f.pushM.M = f.M % 12 + 1 := mon_M f hok.1 hok.2.1
  have b1 := hok.1
  have b2 := hok.2.1
  generalize f.pushM = m at *
  generalize f.day = d at *
  clear hok hd
  obtain ⟨f1, f2, f3, f4, f5⟩ := f
  obtain ⟨d1, d2, d3, d4, d5⟩ := d
  obtain ⟨n1, n2, n3, n4, n5⟩ := m
  simp only at e1 e2 e3 e4 e5 b1 b2
  replace e1 := e1.symm; replace e2 := e2.symm; replace e3 := e3.symm; replace e4 := e4.symm
  subst e1; subst e2; subst e3; subst e4
  have E5 : (n2 == f2 % 12 + 1) = true := beq_iff_eq.2 e5
  clear e5
  have HF := Lib.hid hf; have M1 := Lib.hid m1; have M2 := Lib.hid m2; have M3 := Lib.hid m3; have M4 := Lib.hid m4; have M5 := Lib.hid m5; have M6 := Lib.hid m6; have M7 := Lib.hid m7
  clear hf m1 m2 m3 m4 m5 m6 m7
  go_enter Try.func16, Try.ntmps16
  go_wp2_with fail
  refine (HF.out _).out.mono ?_; rintro e w1 ⟨rfl, hb1⟩
  have s1 := hb1.size
  simp at s1
  go_wp2_with fail
  refine (M1.out _).out.mono ?_; rintro e w2 ⟨rfl, hb2⟩
  have s2 := hb2.size
  simp at s2
  have hF2 := (Blk.new w1 52 _).later hb2
  have k2 := hF2.cell
  have l2 := hF2.lt
  go_wp2_with fail
  refine (M2.out _).out.mono ?_; rintro e w3 ⟨rfl, hb3⟩
  have s3 := hb3.size
  simp at s3
  have hF3 := (hF2.alloc _).later hb3
  have hD3 := (Blk.new w2 52 _).later hb3
  have k3 := hD3.cell
  have l3 := hD3.lt
  clear k2
  go_wp2_with fail
  refine (M3.out _).out.mono ?_; rintro e w4 ⟨rfl, hb4⟩
  have s4 := hb4.size
  simp at s4
  have hF4 := (hF3.alloc _).later hb4
  have hD4 := (hD3.alloc _).later hb4
  have hM4 := (Blk.new w3 52 _).later hb4
  have l4 := hM4.lt
  clear k3
  go_wp2_with fail
  refine (M4.out _).out.mono ?_; rintro e w5 ⟨rfl, hb5⟩
  have s5 := hb5.size
  simp at s5
  have hF5 := (hF4.alloc _).later hb5
  have hD5 := (hD4.alloc _).later hb5
  have hM5 := (hM4.alloc _).later hb5
  have hW5 := (Blk.new w4 52 _).later hb5
  have k5 := hF5.cell
  have l5 := hW5.lt
  have l5f := hF5.lt
  go_wp2_with fail
  refine (M5.out _).out.mono ?_; rintro e w6 ⟨rfl, hb6⟩
  have s6 := hb6.size
  simp at s6
  have hF6 := (hF5.alloc _).later hb6
  have hD6 := (hD5.alloc _).later hb6
  have hM6 := (hM5.alloc _).later hb6
  have hW6 := (hW5.alloc _).later hb6
  have hO6 := (Blk.new w5 52 _).later hb6
  have k6 := hD6.cell
  have l6 := hO6.lt
  have l6d := hD6.lt
  clear k5
  go_wp2_with fail
  refine (M6.out _).out.mono ?_; rintro e w7 ⟨rfl, hb7⟩
  have s7 := hb7.size
  simp at s7
  have hN7 := (Blk.new w6 52 _).later hb7
  have hM7 := (hM6.alloc _).later hb7
  have k7 := hM7.cell
  have l7 := hM7.lt
  clear k6
  go_wp2_with fail
  refine (M7.out _).out.mono ?_; rintro e w8 ⟨rfl, hb8⟩
  clear k7
  go_wp2_with fail
  refine (lives_any _).mono ?_; rintro e w9 ⟨rfl, hb9⟩
  have s8 := hb8.size
  have s9 := hb9.size
  have kf := ((((hF6.alloc _).later hb7).later hb8).later hb9).cell
  have kd := ((((hD6.alloc _).later hb7).later hb8).later hb9).cell
  have km := ((hM7.later hb8).later hb9).cell
  have kw := ((((hW6.alloc _).later hb7).later hb8).later hb9).cell
  have ko := ((((hO6.alloc _).later hb7).later hb8).later hb9).cell
  have kn := ((hN7.later hb8).later hb9).cell
  go_wp2_with fail
  go_ret
  refine ⟨rfl, ?_⟩
  have t1 := ((Below.refl w.heap.size w).alloc (Nat.le_refl _) (.cells #[.int .i64 D, .int .i64 M, .int .i64 L, .int .i64 W, .int .i64 O] 52)).trans (hb1.mono (by simp))
  have t2 := (t1.alloc (by omega) _).trans (hb2.mono (by simp; omega))
  have t3 := (t2.alloc (by omega) _).trans (hb3.mono (by simp; omega))
  have t4 := (t3.alloc (by omega) _).trans (hb4.mono (by simp; omega))
  have t5 := (t4.alloc (by omega) _).trans (hb5.mono (by simp; omega))
  have t6 := (t5.alloc (by omega) _).trans (hb6.mono (by simp; omega))
  have t7 := (t6.alloc (by omega) _).trans (hb7.mono (by simp; omega))
  exact (t7.trans (hb8.mono (by omega))).trans (hb9.mono (by omega))

set_option maxRecDepth 100000 in
theorem lifted (os : Os) (started : os.Started) (H : Type) (enc : TypeId × Value → H) :
    ReturnsInHanded {} Try.checked os 16 .any (Rows.dialHandSpec.pre6 enc Try.prog Try.f16 Rows.dialHandRow.domain false) (Rows.dialHandSpec.post enc Try.prog Try.f16 false true false false) := by
  refine returnsInHanded_of_change (C := Try.checked) Try.own started (by kernel_rfl) Try.func16
    (ChangeSpec.witness6 (enc := enc) (C := Try.checked) false ⟨#[], #[.agg #[.int .i64 0, .int .i64 0, .int .i64 0, .int .i64 0, .int .i64 0]], []⟩ 8 (by kernel_rfl) (by kernel_rfl) (by kernel_rfl) (by kernel_rfl)) ?_
  intro W base args ds gs before hval0 hW hcnd _
  have hval : ∀ (j : Nat) t v, Try.f16.params[j]? = some t → args[j]? = some v → Value.okWide Try.prog W .any base t v := hval0
  have hW' := hW
  obtain ⟨p, q, hA0, hV, rfl, hfz, hnd⟩ := hW
  have hA : DataW.TrodAll enc Try.prog W 0 (fun _ => true) true Try.f16.params.toList args.toList ds p := hA0
  rw [Try.params16] at hA hval
  obtain ⟨v0, vs0, d0, ds0, p0, q0, hargs, rfl, rfl, h0, r0⟩ := trodAll_cons hA
  obtain ⟨rfl, rfl, rfl⟩ := trodAll_nil r0
  obtain rfl : args = #[v0] := by cases args; simp_all
  obtain ⟨rfl, rfl⟩ := trodVars_none hV
  obtain ⟨a00, a01, a02, a03, a04, rfl⟩ := open_F (hval 0 52 v0 rfl rfl) h0
  refine (walk a00 a01 a02 a03 a04 W).mono fun e W' ⟨he, hb⟩ => ?_
  exact ⟨_, he, law_post rfl (by kernel_rfl) (by kernel_rfl) hW' rfl rfl rfl hb⟩

set_option maxRecDepth 100000 in
theorem facts : joinedFacts Try.prog 16 Try.f16 Rows.dialHandSpec Rows.dialHandRow = true := by
  unfold joinedFacts
  repeat' (with_reducible refine and_t ?_ ?_)
  all_goals first
    | with_reducible exact Try.enters
    | (rw [Try.finals]; as_aux_lemma => kernel_rfl)
    | (rw [Try.made]; as_aux_lemma => kernel_rfl)
    | (as_aux_lemma => kernel_rfl)

theorem proved : Rows.DialHandSaid :=
  OpenClaim.holds_of_wide 16 Try.f16 rfl rfl rfl rfl rfl rfl rfl ⟨rfl, rfl, rfl, rfl, rfl⟩ rfl rfl rfl rfl rfl (by as_aux_lemma => kernel_rfl) Try.func16 facts
    (of_decide_eq_true (by as_aux_lemma => kernel_rfl)) (by unfold Func.isWrapper; rw [if_neg (of_decide_eq_false (by kernel_rfl))]; exact ⟨rfl, rfl⟩)
    (fun os started H enc _ => lifted os started H enc)
#print axioms proved
end Go.Proofs.Ytjlnkghjiaglmaa.dialHand
