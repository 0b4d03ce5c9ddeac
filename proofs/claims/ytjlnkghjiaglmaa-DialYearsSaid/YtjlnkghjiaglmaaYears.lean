/-
  Proved: DialYears: a year has the days of its months; 400 years are whole weeks.
  Conditions: none.
-/
import Derived.Test.YtjlnkghjiaglmaaOpens
import Derived.Test.YtjlnkghjiaglmaaLives
import Derived.Test.YtjlnkghjiaglmaaCal2
namespace Go.Proofs.Ytjlnkghjiaglmaa.dialYears
open Go.ChangeShapes Go.WideShapes Go.ChangeAt Go.RowKit

theorem Y_ok {y m d : Int} (h : Cal.ok y m d) (hy : y ≤ 9998) : ∃ Y, (y ≤ 9500 ∧ Y = y ∨ 9500 < y ∧ Y = y - 1200) ∧ Cal.ok Y m d ∧ Cal.ok (Y + 400) m d ∧ Cal.ok Y 1 1 ∧ Cal.ok (Y + 1) 1 1 ∧ Y ≤ 9500 ∧ 1 ≤ Y := by
  obtain ⟨h1, h2, h3, h4, h5, h6⟩ := h
  have key : ∀ Y, 1 ≤ Y → Y ≤ 9500 → Cal.lp Y = Cal.lp y → Cal.ok Y m d ∧ Cal.ok (Y + 400) m d ∧ Cal.ok Y 1 1 ∧ Cal.ok (Y + 1) 1 1 := by
    intro Y a b e
    have b1 := (Cal.dl_bd 1 (Cal.lp Y)).1
    have b2 := (Cal.dl_bd 1 (Cal.lp (Y + 1))).1
    exact ⟨⟨a, by omega, h3, h4, h5, by rw [e]; exact h6⟩, ⟨by omega, by omega, h3, h4, h5, by rw [Cal.lp_400, e]; exact h6⟩, ⟨a, by omega, by omega, by omega, by omega, by omega⟩, ⟨by omega, by omega, by omega, by omega, by omega, by omega⟩⟩
  by_cases hc : y ≤ 9500
  · obtain ⟨k1, k2, k3, k4⟩ := key y h1 hc rfl
    exact ⟨y, .inl ⟨hc, rfl⟩, k1, k2, k3, k4, hc, h1⟩
  · have e : Cal.lp (y - 1200) = Cal.lp y := by
      rw [← Cal.lp_400 (y - 1200), ← Cal.lp_400, ← Cal.lp_400]
      congr 1
      omega
    obtain ⟨k1, k2, k3, k4⟩ := key (y - 1200) (by omega) (by omega) e
    exact ⟨y - 1200, .inr ⟨by omega, rfl⟩, k1, k2, k3, k4, by omega, by omega⟩
theorem week_400 (a : Int) : (a + 1) % 7 = (a + 146097 + 1) % 7 := by omega

set_option maxHeartbeats 2000000 in
theorem walk (a0 : Int) (w : World) :
    Calls Try.prog 4 #[.int .i64 a0] w fun e w' => e = .returned (.bool true) ∧ Below w.heap.size w w' := by
  have hr : 0 ≤ a0 % 3651694 ∧ a0 % 3651694 < 3651694 := ⟨Int.emod_nonneg _ (by omega), Int.emod_lt_of_pos _ (by omega)⟩
  obtain ⟨y, m, d, hok, hnum⟩ := Cal.exists_date (a0 % 3651694) hr.1 (by omega)
  have hy := Cal.year_small hok (by omega)
  obtain ⟨Y, hY, o1, o2, o3, o4, hY1, hY0⟩ := Y_ok hok hy
  have n4 := Cal.num_400 Y m d
  have nf := Cal.num_first Y
  have b1 := Cal.num_bd o1
  have b2 := Cal.num_bd o2
  have b3 := Cal.num_bd o3
  have b4 := Cal.num_bd o4
  obtain ⟨P, hP⟩ : ∃ P, P = Cal.num Y m d := ⟨_, rfl⟩
  obtain ⟨Q, hQ⟩ : ∃ Q, Q = Cal.num (Y + 400) m d := ⟨_, rfl⟩
  obtain ⟨R, hR⟩ : ∃ R, R = Cal.num Y 1 1 := ⟨_, rfl⟩
  obtain ⟨S, hS⟩ : ∃ S, S = Cal.num (Y + 1) 1 1 := ⟨_, rfl⟩
  have cS := fun w => Lib.hid (some_any a0 y m d w hok hnum)
  have c1 := fun w => Lib.hid (Number_yes Y 1 1 w o3)
  have c2 := fun w => Lib.hid (Number_yes (Y + 1) 1 1 w o4)
  have c3 := fun w => Lib.hid (Number_yes Y m d w o1)
  have c4 := fun w => Lib.hid (Number_yes (Y + 400) m d w o2)
  have c5 := fun w => Lib.hid (Weekday_yes Y m d w o1)
  have c6 := fun w => Lib.hid (Weekday_yes (Y + 400) m d w o2)
  rw [← hP] at c3 c5 b1 n4
  rw [← hQ] at c4 c6 b2 n4
  rw [← hR] at c1 b3 nf
  rw [← hS] at c2 b4 nf
  have hcm : Cal.cm 13 (Cal.lp Y) = Cal.cum 12 (Cal.lp Y) := rfl
  rw [hcm] at nf
  have e1 : (S - R == Cal.cum 12 (Cal.lp Y)) = true := beq_iff_eq.2 nf
  have e2 : (Q - P == 146097) = true := beq_iff_eq.2 (by omega)
  have e3 : ((P + 1) % 7 == (Q + 1) % 7) = true := beq_iff_eq.2 (by rw [n4]; exact week_400 P)
  clear hP hQ hR hS hok hnum hy o1 o2 o3 o4 hr n4 nf hcm
  have CS := Lib.hid cS; have C1 := Lib.hid c1; have C2 := Lib.hid c2; have C3 := Lib.hid c3; have C4 := Lib.hid c4; have C5 := Lib.hid c5; have C6 := Lib.hid c6
  clear cS c1 c2 c3 c4 c5 c6
  have hY' : (y ≤ 9500 ∧ y = Y) ∨ (9500 < y ∧ y - 1200 = Y) := by omega
  clear hY
  rcases hY' with ⟨hc, hE⟩ | ⟨hc, hE⟩
  all_goals
    go_enter Try.func4, Try.ntmps4
    go_wp2_with fail
    refine (CS.out _).out.mono ?_; rintro e w1 ⟨rfl, hb1⟩
    go_wp2_with fail
    clear hE hc
    go_loop [5, 6] (fun s i => ∃ k : Nat, k ≤ 12 ∧ s = .int .i64 (Cal.cum k (Cal.lp Y)) ∧ i = .int .i64 ((k : Int) + 1)) (fun _ i => (13 - intOf i).toNat)
    case atStart => exact ⟨0, by omega, rfl, by simp⟩
    case round =>
      obtain ⟨k, hk, rfl, rfl⟩ := hrel
      have hcb := Cal.cum_bd k (Cal.lp Y)
      have hdb := Cal.dl_bd ((k : Int) + 1) (Cal.lp Y)
      have hD1 := (Blk.new w1 30 #[.int .i64 Y, .int .i64 m, .int .i64 d]).alloc (.cells #[.int .i64 (Y + 400), .int .i64 m, .int .i64 d] 30)
      have hL1 := Blk.new (w1.alloc (.cells #[.int .i64 Y, .int .i64 m, .int .i64 d] 30)) 30 #[.int .i64 (Y + 400), .int .i64 m, .int .i64 d]
      simp only [World.size_alloc] at hL1
      by_cases hlt : k < 12
      · go_wp2_with (go_at_call 22; refine (Length_yes _ _ _ (by omega) (by omega) (by omega) (by omega)).mono ?_; rintro e w' ⟨rfl, rfl⟩)
        go_round
        case rel => exact ⟨k + 1, by omega, by rw [Cal.cum_succ], by go_num⟩
        case measure => simp [intOf]; omega
      · obtain rfl : k = 12 := by omega
        clear hlt hk hcb hdb
        go_wp2_with fail
        refine (C1.out _).out.mono ?_; rintro e w2 ⟨rfl, hb2⟩
        have hD2 := hD1.later hb2
        have hL2 := hL1.later hb2
        have k2 := hD2.cell
        have s2 := hb2.size
        simp at s2
        go_wp2_with fail
        refine (C2.out _).out.mono ?_; rintro e w3 ⟨rfl, hb3⟩
        have hD3 := hD2.later hb3
        have hL3 := hL2.later hb3
        have k3 := hD3.cell
        clear k2
        go_wp2_with fail
        refine (C3.out _).out.mono ?_; rintro e w4 ⟨rfl, hb4⟩
        have hD4 := hD3.later hb4
        have hL4 := hL3.later hb4
        have k4 := hL4.cell
        clear k3
        go_wp2_with fail
        refine (C4.out _).out.mono ?_; rintro e w5 ⟨rfl, hb5⟩
        have hD5 := hD4.later hb5
        have hL5 := hL4.later hb5
        have k5 := hD5.cell
        clear k4
        go_wp2_with fail
        refine (C5.out _).out.mono ?_; rintro e w6 ⟨rfl, hb6⟩
        have hL6 := hL5.later hb6
        have k6 := hL6.cell
        clear k5
        go_wp2_with fail
        refine (C6.out _).out.mono ?_; rintro e w7 ⟨rfl, hb7⟩
        clear k6
        go_wp2_with (go_at_call 23; refine (lives_any _).mono ?_; rintro e w8 ⟨rfl, hb8⟩)
        go_ret
        refine ⟨rfl, ?_⟩
        have s1 := hb1.size
        have s3 := hb3.size
        have s4 := hb4.size
        have s5 := hb5.size
        have s6 := hb6.size
        have s7 := hb7.size
        have t2 := (((hb1.alloc s1 (.cells #[.int .i64 Y, .int .i64 m, .int .i64 d] 30)).alloc (by simp; omega) (.cells #[.int .i64 (Y + 400), .int .i64 m, .int .i64 d] 30))).trans (hb2.mono (by simp; omega))
        exact (((((t2.trans (hb3.mono (by omega))).trans (hb4.mono (by omega))).trans (hb5.mono (by omega))).trans (hb6.mono (by omega))).trans (hb7.mono (by omega))).trans (hb8.mono (by omega))

set_option maxRecDepth 100000 in
theorem lifted (os : Os) (started : os.Started) (H : Type) (enc : TypeId × Value → H) :
    ReturnsInHanded {} Try.checked os 4 .any (Rows.dialYearsSpec.pre6 enc Try.prog Try.f4 Rows.dialYearsRow.domain false) (Rows.dialYearsSpec.post enc Try.prog Try.f4 false true false false) := by
  refine returnsInHanded_of_change (C := Try.checked) Try.own started (by kernel_rfl) Try.func4
    (ChangeSpec.witness6 (enc := enc) (C := Try.checked) false ⟨#[], #[.int .i64 0], []⟩ 8 (by kernel_rfl) (by kernel_rfl) (by kernel_rfl) (by kernel_rfl)) ?_
  intro W base args ds gs before hval0 hW hcnd _
  have hval : ∀ (j : Nat) t v, Try.f4.params[j]? = some t → args[j]? = some v → Value.okWide Try.prog W .any base t v := hval0
  have hW' := hW
  obtain ⟨p, q, hA0, hV, rfl, hfz, hnd⟩ := hW
  have hA : DataW.TrodAll enc Try.prog W 0 (fun _ => true) true Try.f4.params.toList args.toList ds p := hA0
  rw [Try.params4] at hA hval
  obtain ⟨v0, vs0, d0, ds0, p0, q0, hargs, rfl, rfl, h0, r0⟩ := trodAll_cons hA
  obtain ⟨rfl, rfl, rfl⟩ := trodAll_nil r0
  obtain rfl : args = #[v0] := by cases args; simp_all
  obtain ⟨rfl, rfl⟩ := trodVars_none hV
  obtain ⟨a0, rfl, rfl, rfl, w0⟩ := open_int Try.underlying3 (hval 0 3 v0 rfl rfl) h0
  refine (walk a0 W).mono fun e W' ⟨he, hb⟩ => ?_
  exact ⟨_, he, law_post rfl (by kernel_rfl) (by kernel_rfl) hW' rfl rfl rfl hb⟩

set_option maxRecDepth 100000 in
theorem facts : joinedFacts Try.prog 4 Try.f4 Rows.dialYearsSpec Rows.dialYearsRow = true := by
  unfold joinedFacts
  repeat' (with_reducible refine and_t ?_ ?_)
  all_goals first
    | with_reducible exact Try.enters
    | (rw [Try.finals]; as_aux_lemma => kernel_rfl)
    | (rw [Try.made]; as_aux_lemma => kernel_rfl)
    | (as_aux_lemma => kernel_rfl)

theorem proved : Rows.DialYearsSaid :=
  OpenClaim.holds_of_wide 4 Try.f4 rfl rfl rfl rfl rfl rfl rfl ⟨rfl, rfl, rfl, rfl, rfl⟩ rfl rfl rfl rfl rfl (by as_aux_lemma => kernel_rfl) Try.func4 facts
    (of_decide_eq_true (by as_aux_lemma => kernel_rfl)) (by unfold Func.isWrapper; rw [if_neg (of_decide_eq_false (by kernel_rfl))]; exact ⟨rfl, rfl⟩)
    (fun os started H enc _ => lifted os started H enc)
#print axioms proved
end Go.Proofs.Ytjlnkghjiaglmaa.dialYears
