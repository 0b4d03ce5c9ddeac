/-
  Proved: DialBack: Date and Number undo one another; the day after a date has the next number and weekday.
  Conditions: none.
-/
import Derived.Test.YtjlnkghjiaglmaaOpens
import Derived.Test.YtjlnkghjiaglmaaLives
import Derived.Test.YtjlnkghjiaglmaaCal2
namespace Go.Proofs.Ytjlnkghjiaglmaa.dialBack
open Go.ChangeShapes Go.WideShapes Go.ChangeAt Go.RowKit

theorem week_next (a : Int) : (a + 1 + 1) % 7 = ((a + 1) % 7 + 1) % 7 := by omega

set_option maxHeartbeats 1000000 in
theorem walk (a0 : Int) (w : World) :
    Calls Try.prog 11 #[.int .i64 a0] w fun e w' => e = .returned (.bool true) ∧ Below w.heap.size w w' := by
  have hr : 0 ≤ a0 % 3651694 ∧ a0 % 3651694 < 3651694 := ⟨Int.emod_nonneg _ (by omega), Int.emod_lt_of_pos _ (by omega)⟩
  obtain ⟨y, m, d, hok, hnum⟩ := Cal.exists_date (a0 % 3651694) hr.1 (by omega)
  have hy := Cal.year_small hok (by omega)
  obtain ⟨⟨y', m', d'⟩, hnx⟩ : ∃ x, x = nextOf y m d := ⟨_, rfl⟩
  obtain ⟨hok2, hnum2⟩ := Cal.next_ok hok hy hnx.symm
  have hb0 := Cal.num_bd hok
  have hy2 := hok2.2.1
  obtain ⟨A, hA⟩ : ∃ A, A = Cal.num y m d := ⟨_, rfl⟩
  obtain ⟨B, hB⟩ : ∃ B, B = Cal.num y' m' d' := ⟨_, rfl⟩
  have e1 : (A == a0 % 3651694) = true := beq_iff_eq.2 (by omega)
  have e2 : (B == A + 1) = true := beq_iff_eq.2 (by omega)
  have e3 : ((B + 1) % 7 == ((A + 1) % 7 + 1) % 7) = true := beq_iff_eq.2 (by rw [show B = A + 1 by omega]; exact week_next A)
  have e4 : (B + 1) % 7 = (A + 1 + 1) % 7 := by omega
  have e5 : ((B + 1) % 7 == (A + 1 + 1) % 7) = true := beq_iff_eq.2 e4
  clear e4
  have cN1 := fun w => Lib.hid (Number_yes y m d w hok)
  have cN2 := fun w => Lib.hid (Number_yes y' m' d' w hok2)
  have cW1 := fun w => Lib.hid (Weekday_yes y m d w hok)
  have cW2 := fun w => Lib.hid (Weekday_yes y' m' d' w hok2)
  have cD := fun w => Lib.hid (Date_yes y m d w hok)
  have cS := fun w => Lib.hid (some_any a0 y m d w hok hnum)
  have cX := fun w => Lib.hid (Next_any y m d y' m' d' w hok hnx.symm hy2)
  rw [← hA] at cN1 cW1 cD hb0
  rw [← hB] at cN2 cW2
  clear hok hok2 hnum hnum2 hnx hA hB hr
  have CN1 := Lib.hid cN1; have CN2 := Lib.hid cN2; have CW1 := Lib.hid cW1; have CW2 := Lib.hid cW2; have CD := Lib.hid cD; have CS := Lib.hid cS; have CX := Lib.hid cX
  clear cN1 cN2 cW1 cW2 cD cS cX
  go_enter Try.func11, Try.ntmps11
  go_wp2_with fail
  refine (CS.out _).out.mono ?_; rintro e w1 ⟨rfl, hb1⟩
  go_wp2_with fail
  refine (CX.out _).out.mono ?_; rintro e w2 ⟨rfl, hb2⟩
  have hD2 := (Blk.new w1 30 #[.int .i64 y, .int .i64 m, .int .i64 d]).later hb2
  have k2 := hD2.cell
  have l2 := hD2.lt
  go_wp2_with fail
  refine (CN1.out _).out.mono ?_; rintro e w3 ⟨rfl, hb3⟩
  have hD3 := (hD2.alloc _).later hb3
  have hE3 := (Blk.new w2 30 #[.int .i64 y', .int .i64 m', .int .i64 d']).later hb3
  have k3 := hD3.cell
  have l3 := hD3.lt
  have m3 := hE3.lt
  have j3 := hE3.cell
  clear k2
  go_wp2_with fail
  refine (CN2.out _).out.mono ?_; rintro e w4 ⟨rfl, hb4⟩
  have hD4 := hD3.later hb4
  have hE4 := hE3.later hb4
  clear k3 j3
  go_wp2_with fail
  refine (CD.out _).out.mono ?_; rintro e w5 ⟨rfl, hb5⟩
  have hD5 := hD4.later hb5
  have hE5 := hE4.later hb5
  have k5 := hD5.cell
  have l5 := hD5.lt
  have m5 := hE5.lt
  go_wp2_with fail
  refine (CW1.out _).out.mono ?_; rintro e w6 ⟨rfl, hb6⟩
  have hD6 := (hD5.alloc _).later hb6
  have hE6 := (hE5.alloc _).later hb6
  have hX6 := (Blk.new w5 30 #[.int .i64 y, .int .i64 m, .int .i64 d]).later hb6
  have j6 := hE6.cell
  have l6 := hE6.lt
  clear k5
  go_wp2_with fail
  refine (CW2.out _).out.mono ?_; rintro e w7 ⟨rfl, hb7⟩
  have hD7 := hD6.later hb7
  have hX7 := hX6.later hb7
  have k7 := hD7.cell
  have j7 := hX7.cell
  have l7 := hX7.lt
  have m7 := hD7.lt
  clear j6
  go_wp2_with (first
    | (go_at_call 48; refine (fold_any _ _ _ (by omega) (by omega)).mono ?_; rintro e w' ⟨rfl, rfl⟩)
    | (go_at_call 23; refine (lives_any _).mono ?_; rintro e w8 ⟨rfl, hb8⟩))
  go_ret
  refine ⟨rfl, ?_⟩
  have s1 := hb1.size
  have s2 := hb2.size
  have s3 := hb3.size
  have s4 := hb4.size
  have s5 := hb5.size
  have s6 := hb6.size
  have s7 := hb7.size
  simp at s2 s3 s6
  have t2 := (hb1.alloc s1 (.cells #[.int .i64 y, .int .i64 m, .int .i64 d] 30)).trans (hb2.mono (by simp; omega))
  have t3 := (t2.alloc (by omega) (.cells #[.int .i64 y', .int .i64 m', .int .i64 d'] 30)).trans (hb3.mono (by simp; omega))
  have t5 := (t3.trans (hb4.mono (by omega))).trans (hb5.mono (by omega))
  have t6 := (t5.alloc (by omega) (.cells #[.int .i64 y, .int .i64 m, .int .i64 d] 30)).trans (hb6.mono (by simp; omega))
  exact (t6.trans (hb7.mono (by omega))).trans (hb8.mono (by omega))

set_option maxRecDepth 100000 in
theorem lifted (os : Os) (started : os.Started) (H : Type) (enc : TypeId × Value → H) :
    ReturnsInHanded {} Try.checked os 11 .any (Rows.dialBackSpec.pre6 enc Try.prog Try.f11 Rows.dialBackRow.domain false) (Rows.dialBackSpec.post enc Try.prog Try.f11 false true false false) := by
  refine returnsInHanded_of_change (C := Try.checked) Try.own started (by kernel_rfl) Try.func11
    (ChangeSpec.witness6 (enc := enc) (C := Try.checked) false ⟨#[], #[.int .i64 0], []⟩ 8 (by kernel_rfl) (by kernel_rfl) (by kernel_rfl) (by kernel_rfl)) ?_
  intro W base args ds gs before hval0 hW hcnd _
  have hval : ∀ (j : Nat) t v, Try.f11.params[j]? = some t → args[j]? = some v → Value.okWide Try.prog W .any base t v := hval0
  have hW' := hW
  obtain ⟨p, q, hA0, hV, rfl, hfz, hnd⟩ := hW
  have hA : DataW.TrodAll enc Try.prog W 0 (fun _ => true) true Try.f11.params.toList args.toList ds p := hA0
  rw [Try.params11] at hA hval
  obtain ⟨v0, vs0, d0, ds0, p0, q0, hargs, rfl, rfl, h0, r0⟩ := trodAll_cons hA
  obtain ⟨rfl, rfl, rfl⟩ := trodAll_nil r0
  obtain rfl : args = #[v0] := by cases args; simp_all
  obtain ⟨rfl, rfl⟩ := trodVars_none hV
  obtain ⟨a0, rfl, rfl, rfl, w0⟩ := open_int Try.underlying3 (hval 0 3 v0 rfl rfl) h0
  refine (walk a0 W).mono fun e W' ⟨he, hb⟩ => ?_
  exact ⟨_, he, law_post rfl (by kernel_rfl) (by kernel_rfl) hW' rfl rfl rfl hb⟩

set_option maxRecDepth 100000 in
theorem facts : joinedFacts Try.prog 11 Try.f11 Rows.dialBackSpec Rows.dialBackRow = true := by
  unfold joinedFacts
  repeat' (with_reducible refine and_t ?_ ?_)
  all_goals first
    | with_reducible exact Try.enters
    | (rw [Try.finals]; as_aux_lemma => kernel_rfl)
    | (rw [Try.made]; as_aux_lemma => kernel_rfl)
    | (as_aux_lemma => kernel_rfl)

theorem proved : Rows.DialBackSaid :=
  OpenClaim.holds_of_wide 11 Try.f11 rfl rfl rfl rfl rfl rfl rfl ⟨rfl, rfl, rfl, rfl, rfl⟩ rfl rfl rfl rfl rfl (by as_aux_lemma => kernel_rfl) Try.func11 facts
    (of_decide_eq_true (by as_aux_lemma => kernel_rfl)) (by unfold Func.isWrapper; rw [if_neg (of_decide_eq_false (by kernel_rfl))]; exact ⟨rfl, rfl⟩)
    (fun os started H enc _ => lifted os started H enc)
#print axioms proved
end Go.Proofs.Ytjlnkghjiaglmaa.dialBack
