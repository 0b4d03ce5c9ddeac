/-
  Proved: DialSum: some midnights and then some more are all of them at once.
  Conditions: none.
-/
import Derived.Test.YtjlnkghjiaglmaaOpens
import Derived.Test.YtjlnkghjiaglmaaLives
import Derived.Test.YtjlnkghjiaglmaaNights
import Derived.Test.YtjlnkghjiaglmaaFaced
namespace Go.Proofs.Ytjlnkghjiaglmaa.dialSum
open Go.ChangeShapes Go.WideShapes Go.ChangeAt Go.RowKit

set_option maxHeartbeats 2000000 in
theorem walk (D M L W O a b : Int) (w : World) :
    Calls Try.prog 13 #[.agg #[.int .i64 D, .int .i64 M, .int .i64 L, .int .i64 W, .int .i64 O], .int .i64 a, .int .i64 b] w fun e w' => e = .returned (.bool true) ∧ Below w.heap.size w w' := by
  have ha : 0 ≤ a % 50001 ∧ a % 50001 < 50001 := ⟨Int.emod_nonneg _ (by omega), Int.emod_lt_of_pos _ (by omega)⟩
  have hb : 0 ≤ b % 50001 ∧ b % 50001 < 50001 := ⟨Int.emod_nonneg _ (by omega), Int.emod_lt_of_pos _ (by omega)⟩
  have hf := fun w => Lib.hid (faced_any ⟨D, M, L, W, O⟩ w)
  have hok := Fc.made_ok ⟨D, M, L, W, O⟩
  generalize Fc.made ⟨D, M, L, W, O⟩ = f at *
  have A1 := fun w => Lib.hid (fold_any a 50001 w (by omega) (by omega))
  have A2 := fun w => Lib.hid (fold_any b 50001 w (by omega) (by omega))
  generalize a % 50001 = A at *
  generalize b % 50001 = B at *
  have m1 := fun w => Lib.hid (Midnight_yes f A w hok ha.1 (by omega))
  have m2 := fun w => Lib.hid (Midnight_yes (Fc.nights A.toNat f) B w (Fc.nights_ok hok _) hb.1 (by omega))
  have m3 := fun w => Lib.hid (Midnight_yes f (A + B) w hok (by omega) (by omega))
  have e : Fc.nights (A + B).toNat f = Fc.nights B.toNat (Fc.nights A.toNat f) := by
    rw [← Fc.nights_add]; congr 1; omega
  rw [e] at m3
  clear e hok
  generalize Fc.nights A.toNat f = g at *
  generalize Fc.nights B.toNat g = h at *
  obtain ⟨f1, f2, f3, f4, f5⟩ := f
  obtain ⟨g1, g2, g3, g4, g5⟩ := g
  obtain ⟨h1, h2, h3, h4, h5⟩ := h
  have HF := Lib.hid hf; have B1 := Lib.hid A1; have B2 := Lib.hid A2; have M1 := Lib.hid m1; have M2 := Lib.hid m2; have M3 := Lib.hid m3
  clear hf A1 A2 m1 m2 m3
  obtain ⟨ha1, ha2⟩ := ha
  obtain ⟨hb1', hb2'⟩ := hb
  go_enter Try.func13, Try.ntmps13
  go_wp2_with fail
  refine (HF.out _).out.mono ?_; rintro e w1 ⟨rfl, hb1⟩
  have s1 := hb1.size
  simp at s1
  go_wp2_with fail
  refine (B1.out _).out.mono ?_; rintro e w' ⟨rfl, rfl⟩
  go_wp2_with fail
  refine (B2.out _).out.mono ?_; rintro e w' ⟨rfl, rfl⟩
  go_wp2_with fail
  refine (M1.out _).out.mono ?_; rintro e w2 ⟨rfl, hb2⟩
  have hF2 := (Blk.new w1 52 (Fc.cells ⟨f1, f2, f3, f4, f5⟩)).later hb2
  have l2 := hF2.lt
  have k2 := hF2.cell
  go_wp2_with fail
  refine (M2.out _).out.mono ?_; rintro e w3 ⟨rfl, hb3⟩
  have hF3 := (hF2.alloc _).later hb3
  have l3 := hF3.lt
  have k3 := hF3.cell
  have s3 := hb3.size
  simp at s3
  clear k2
  go_wp2_with fail
  refine (M3.out _).out.mono ?_; rintro e w4 ⟨rfl, hb4⟩
  have hH4 := (Blk.new w3 52 (Fc.cells ⟨h1, h2, h3, h4, h5⟩)).later hb4
  have l4 := hH4.lt
  have k4 := hH4.cell
  clear k3
  go_wp2_with (go_at_call 23; refine (lives_any _).mono ?_; rintro e w8 ⟨rfl, hb8⟩)
  go_ret
  refine ⟨rfl, ?_⟩
  have t1 := ((Below.refl w.heap.size w).alloc (Nat.le_refl _) (.cells #[.int .i64 D, .int .i64 M, .int .i64 L, .int .i64 W, .int .i64 O] 52)).trans (hb1.mono (by simp))
  have t2 := (t1.alloc (by omega) (.cells (Fc.cells ⟨f1, f2, f3, f4, f5⟩) 52)).trans (hb2.mono (by simp; omega))
  have t3 := (t2.alloc (by omega) (.cells (Fc.cells ⟨g1, g2, g3, g4, g5⟩) 52)).trans (hb3.mono (by simp; omega))
  have t4 := (t3.alloc (by omega) (.cells (Fc.cells ⟨h1, h2, h3, h4, h5⟩) 52)).trans (hb4.mono (by simp; omega))
  exact (t4.alloc (by omega) _).trans (hb8.mono (by simp; omega))

set_option maxRecDepth 100000 in
theorem lifted (os : Os) (started : os.Started) (H : Type) (enc : TypeId × Value → H) :
    ReturnsInHanded {} Try.checked os 13 .any (Rows.dialSumSpec.pre6 enc Try.prog Try.f13 Rows.dialSumRow.domain false) (Rows.dialSumSpec.post enc Try.prog Try.f13 false true false false) := by
  refine returnsInHanded_of_change (C := Try.checked) Try.own started (by kernel_rfl) Try.func13
    (ChangeSpec.witness6 (enc := enc) (C := Try.checked) false ⟨#[], #[.agg #[.int .i64 0, .int .i64 0, .int .i64 0, .int .i64 0, .int .i64 0], .int .i64 0, .int .i64 0], []⟩ 8 (by kernel_rfl) (by kernel_rfl) (by kernel_rfl) (by kernel_rfl)) ?_
  intro W base args ds gs before hval0 hW hcnd _
  have hval : ∀ (j : Nat) t v, Try.f13.params[j]? = some t → args[j]? = some v → Value.okWide Try.prog W .any base t v := hval0
  have hW' := hW
  obtain ⟨p, q, hA0, hV, rfl, hfz, hnd⟩ := hW
  have hA : DataW.TrodAll enc Try.prog W 0 (fun _ => true) true Try.f13.params.toList args.toList ds p := hA0
  rw [Try.params13] at hA hval
  obtain ⟨v0, vs0, d0, ds0, p0, q0, hargs, rfl, rfl, h0, r0⟩ := trodAll_cons hA
  obtain ⟨v1, vs1, d1, ds1, p1, q1, rfl, rfl, rfl, h1, r1⟩ := trodAll_cons r0
  obtain ⟨v2, vs2, d2, ds2, p2, q2, rfl, rfl, rfl, h2, r2⟩ := trodAll_cons r1
  obtain ⟨rfl, rfl, rfl⟩ := trodAll_nil r2
  obtain rfl : args = #[v0, v1, v2] := by cases args; simp_all
  obtain ⟨rfl, rfl⟩ := trodVars_none hV
  obtain ⟨a00, a01, a02, a03, a04, rfl⟩ := open_F (hval 0 52 v0 rfl rfl) h0
  obtain ⟨a1, rfl, rfl, rfl, w1⟩ := open_int Try.underlying3 (hval 1 3 v1 rfl rfl) h1
  obtain ⟨a2, rfl, rfl, rfl, w2⟩ := open_int Try.underlying3 (hval 2 3 v2 rfl rfl) h2
  refine (walk a00 a01 a02 a03 a04 a1 a2 W).mono fun e W' ⟨he, hb⟩ => ?_
  exact ⟨_, he, law_post rfl (by kernel_rfl) (by kernel_rfl) hW' rfl rfl rfl hb⟩

set_option maxRecDepth 100000 in
theorem facts : joinedFacts Try.prog 13 Try.f13 Rows.dialSumSpec Rows.dialSumRow = true := by
  unfold joinedFacts
  repeat' (with_reducible refine and_t ?_ ?_)
  all_goals first
    | with_reducible exact Try.enters
    | (rw [Try.finals]; as_aux_lemma => kernel_rfl)
    | (rw [Try.made]; as_aux_lemma => kernel_rfl)
    | (as_aux_lemma => kernel_rfl)

theorem proved : Rows.DialSumSaid :=
  OpenClaim.holds_of_wide 13 Try.f13 rfl rfl rfl rfl rfl rfl rfl ⟨rfl, rfl, rfl, rfl, rfl⟩ rfl rfl rfl rfl rfl (by as_aux_lemma => kernel_rfl) Try.func13 facts
    (of_decide_eq_true (by as_aux_lemma => kernel_rfl)) (by unfold Func.isWrapper; rw [if_neg (of_decide_eq_false (by kernel_rfl))]; exact ⟨rfl, rfl⟩)
    (fun os started H enc _ => lifted os started H enc)
#print axioms proved
end Go.Proofs.Ytjlnkghjiaglmaa.dialSum
