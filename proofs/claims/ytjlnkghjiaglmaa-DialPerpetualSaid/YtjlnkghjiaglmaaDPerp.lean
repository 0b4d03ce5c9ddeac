/-
  Proved: DialPerpetual: from 1 March 1900 to 28 February 2100 the face shows the right date; later it is wrong after the first 28 February that the mechanism takes for one of a leap year.
  Conditions: none.
-/
import Derived.Test.YtjlnkghjiaglmaaOpens
import Derived.Test.YtjlnkghjiaglmaaLives
import Derived.Test.YtjlnkghjiaglmaaRWrong
import Derived.Test.YtjlnkghjiaglmaaSome
namespace Go.Proofs.Ytjlnkghjiaglmaa.dialPerpetual
open Go.ChangeShapes Go.WideShapes Go.ChangeAt Go.RowKit

theorem num_L : Cal.num 1900 3 1 = 693654 := by decide
theorem num_H : Cal.num 2100 2 28 = 766702 := by decide
theorem num_28 : Cal.num 1900 2 28 = 693653 := by decide
theorem yb_1900 : Cal.yb 1900 = 693595 := by decide
theorem yb_2101 : Cal.yb 2101 = 767009 := by decide
/-- No such day between. -/
theorem crit_between {x : Int × Int × Int} (h : Cal.okT x) (h1 : 693654 ≤ Cal.numT x) (h2 : Cal.numT x < 766702) : Cal.crit x = false := by
  obtain ⟨y, m, d⟩ := x
  cases hc : Cal.crit (y, m, d) with
  | false => rfl
  | true =>
    exfalso
    unfold Cal.crit at hc
    simp at hc
    obtain ⟨⟨rfl, rfl, h4⟩, hl⟩ := hc
    have hi := Cal.num_in h
    have hlp := Cal.lp_false.1 hl
    have h1' : 693654 ≤ Cal.num y 2 28 := h1
    have h2' : Cal.num y 2 28 < 766702 := h2
    simp only at hi
    rcases Int.lt_or_le y 1900 with a | a
    · have := Cal.yb_mono (y + 1) 1900 (by omega)
      rw [yb_1900] at this
      omega
    rcases Int.lt_or_le 2100 y with b | b
    · have := Cal.yb_mono 2101 y (by omega)
      rw [yb_2101] at this
      omega
    by_cases c : y = 1900
    · subst c; rw [num_28] at h1'; omega
    by_cases e : y = 2100
    · subst e; rw [num_H] at h2'; omega
    omega
theorem crit_H : Cal.crit (2100, 2, 28) = true := by decide
theorem set_ok {y m d o : Int} (h : Cal.ok y m d) (h1 : 0 ≤ o) (h2 : o ≤ 58) : (Fc.set y m d o).ok := by
  have k := Wrong_ok h
  exact ⟨k.1, k.2.1, k.2.2.1, k.2.2.2.1, k.2.2.2.2.1, k.2.2.2.2.2.1, k.2.2.2.2.2.2.1, k.2.2.2.2.2.2.2.1, h1, h2⟩
theorem rNumber_L (w : World) : Calls Try.prog 44 #[D3 1900 3 1] w fun e w' => e = .returned (.int .i64 693654) ∧ Below w.heap.size w w' := by
  have := rNumber_any 1900 3 1 w (by decide)
  rwa [num_L] at this
theorem rNumber_H (w : World) : Calls Try.prog 44 #[D3 2100 2 28] w fun e w' => e = .returned (.int .i64 766702) ∧ Below w.heap.size w w' := by
  have := rNumber_any 2100 2 28 w (by decide)
  rwa [num_H] at this

set_option maxHeartbeats 4000000 in
theorem walk_main (n nights x N y m d y' m' d' : Int) (f g : Fc) (w : World) (x1 : 0 ≤ x) (x2 : x < 73049) (n1 : 0 ≤ N) (n2 : N ≤ 766702 - (693654 + x)) (F1 : Hid (∀ w, Hid (Calls Try.prog 48 #[.int .i64 n, .int .i64 73049] w fun e w' => e = .returned (.int .i64 x) ∧ w = w'))) (F2 : Hid (∀ w, Hid (Calls Try.prog 48 #[.int .i64 nights, .int .i64 (766702 - (693654 + x) + 1)] w fun e w' => e = .returned (.int .i64 N) ∧ w = w'))) (M3 : Hid (∀ w, Hid (Calls Try.prog 46 #[.int .i64 (693654 + x)] w fun e w' => e = .returned (.tuple #[D3 y m d, .bool true]) ∧ Below w.heap.size w w'))) (M4 : Hid (∀ w, Hid (Calls Try.prog 37 #[D3 y m d, .int .i64 5] w fun e w' => e = .returned (.tuple #[f.val, .int .i64 0]) ∧ Below w.heap.size w w'))) (M5 : Hid (∀ w, Hid (Calls Try.prog 50 #[f.val, .int .i64 N] w fun e w' => e = .returned (.tuple #[g.val, .int .i64 0]) ∧ Below w.heap.size w w'))) (M6 : Hid (∀ w, Hid (Calls Try.prog 46 #[.int .i64 (693654 + x + N)] w fun e w' => e = .returned (.tuple #[D3 y' m' d', .bool true]) ∧ Below w.heap.size w w'))) (M7 : Hid (∀ w, Hid (Calls Try.prog 38 #[g.val, D3 y' m' d'] w fun e w' => e = .returned (.tuple #[.bool true, .int .i64 0]) ∧ Below w.heap.size w w'))) (M8 : Hid (∀ w, Hid (Calls Try.prog 58 #[D3 y m d, .int .i64 N] w fun e w' => e = .returned (.tuple #[.int .i64 (-1), .int .i64 0]) ∧ Below w.heap.size w w'))) (M9 : Hid (∀ w, Hid (Calls Try.prog 58 #[D3 y m d, .int .i64 (766703 - (693654 + x))] w fun e w' => e = .returned (.tuple #[.int .i64 (766703 - (693654 + x)), .int .i64 0]) ∧ Below w.heap.size w w'))) (hL : (g.L != y' % 4) = false) (y1 : 0 ≤ y') :
    Calls Try.prog 21 #[.int .i64 n, .int .i64 nights] w fun e w' => e = .returned (.bool true) ∧ Below w.heap.size w w' := by
  go_enter Try.func21, Try.ntmps21
  have hw0 : Below w.heap.size w w := Below.refl _ _
  go_wp2_with fail
  refine (rNumber_L _).mono ?_; rintro e w1 ⟨rfl, hb1⟩
  have hw1 := hw0.trans (hb1.mono (by first | omega | (simp; omega) | simp))
  have s1 := hb1.size
  go_wp2_with fail
  refine (rNumber_H _).mono ?_; rintro e w2 ⟨rfl, hb2⟩
  have hw2 := hw1.trans (hb2.mono (by first | omega | (simp; omega) | simp))
  have s2 := hb2.size
  go_wp2_with fail
  refine ((F1.out _).out).mono ?_; rintro e w' ⟨rfl, rfl⟩
  go_wp2_with fail
  refine ((M3.out _).out).mono ?_; rintro e w3 ⟨rfl, hb3⟩
  have hw3 := hw2.trans (hb3.mono (by first | omega | (simp; omega) | simp))
  have s3 := hb3.size
  go_wp2_with fail
  refine ((F2.out _).out).mono ?_; rintro e w' ⟨rfl, rfl⟩
  go_wp2_with fail
  refine ((M4.out _).out).mono ?_; rintro e w4 ⟨rfl, hb4⟩
  have hA4 := (Blk.new w3 30 #[.int .i64 y, .int .i64 m, .int .i64 d]).later hb4
  have hw4 := (hw3.alloc (by first | omega | (simp; omega) | simp) _).trans (hb4.mono (by first | omega | (simp; omega) | simp))
  have s4 := hb4.size
  simp at s4
  have lA4 := hA4.lt
  have kA := hA4.cell
  go_wp2_with fail
  refine ((M5.out _).out).mono ?_; rintro e w5 ⟨rfl, hb5⟩
  have hA5 := (hA4.alloc _).later hb5
  have hF5 := (Blk.new w4 52 f.cells).later hb5
  have hw5 := (hw4.alloc (by first | omega | (simp; omega) | simp) _).trans (hb5.mono (by first | omega | (simp; omega) | simp))
  have s5 := hb5.size
  simp at s5
  have lA5 := hA5.lt
  have lF5 := hF5.lt
  clear kA
  have kA := hA5.cell
  have kF := hF5.cell
  go_wp2_with fail
  refine ((M6.out _).out).mono ?_; rintro e w6 ⟨rfl, hb6⟩
  have hA6 := (hA5.alloc _).later hb6
  have hF6 := (hF5.alloc _).later hb6
  have hG6 := (Blk.new w5 52 g.cells).later hb6
  have hw6 := (hw5.alloc (by first | omega | (simp; omega) | simp) _).trans (hb6.mono (by first | omega | (simp; omega) | simp))
  have s6 := hb6.size
  simp at s6
  have lA6 := hA6.lt
  have lF6 := hF6.lt
  have lG6 := hG6.lt
  clear kA kF
  have kA := hA6.cell
  have kF := hF6.cell
  have kG := hG6.cell
  go_wp2_with fail
  refine ((M7.out _).out).mono ?_; rintro e w7 ⟨rfl, hb7⟩
  have hA7 := (hA6.alloc _).later hb7
  have hF7 := (hF6.alloc _).later hb7
  have hG7 := (hG6.alloc _).later hb7
  have hB7 := (Blk.new w6 30 #[.int .i64 y', .int .i64 m', .int .i64 d']).later hb7
  have hw7 := (hw6.alloc (by first | omega | (simp; omega) | simp) _).trans (hb7.mono (by first | omega | (simp; omega) | simp))
  have s7 := hb7.size
  simp at s7
  have lA7 := hA7.lt
  have lF7 := hF7.lt
  have lG7 := hG7.lt
  have lB7 := hB7.lt
  clear kA kF kG
  have kA := hA7.cell
  have kF := hF7.cell
  have kG := hG7.cell
  have kB := hB7.cell
  go_wp2_with fail
  refine ((M8.out _).out).mono ?_; rintro e w8 ⟨rfl, hb8⟩
  have hA8 := hA7.later hb8
  have hF8 := hF7.later hb8
  have hG8 := hG7.later hb8
  have hB8 := hB7.later hb8
  have hw8 := hw7.trans (hb8.mono (by first | omega | (simp; omega) | simp))
  have s8 := hb8.size
  have lA8 := hA8.lt
  have lF8 := hF8.lt
  have lG8 := hG8.lt
  have lB8 := hB8.lt
  clear kA kF kG kB
  have kA := hA8.cell
  have kF := hF8.cell
  have kG := hG8.cell
  have kB := hB8.cell
  go_wp2_with fail
  refine (lives_any _).mono ?_; rintro e w9 ⟨rfl, hb9⟩
  have hA9 := hA8.later hb9
  have hF9 := hF8.later hb9
  have hG9 := hG8.later hb9
  have hB9 := hB8.later hb9
  have hw9 := hw8.trans (hb9.mono (by first | omega | (simp; omega) | simp))
  have s9 := hb9.size
  have lA9 := hA9.lt
  have lF9 := hF9.lt
  have lG9 := hG9.lt
  have lB9 := hB9.lt
  clear kA kF kG kB
  have kA := hA9.cell
  have kF := hF9.cell
  have kG := hG9.cell
  have kB := hB9.cell
  go_wp2_with fail
  refine ((M9.out _).out).mono ?_; rintro e w10 ⟨rfl, hb10⟩
  have hA10 := hA9.later hb10
  have hF10 := hF9.later hb10
  have hG10 := hG9.later hb10
  have hB10 := hB9.later hb10
  have hw10 := hw9.trans (hb10.mono (by first | omega | (simp; omega) | simp))
  have s10 := hb10.size
  have lA10 := hA10.lt
  have lF10 := hF10.lt
  have lG10 := hG10.lt
  have lB10 := hB10.lt
  clear kA kF kG kB
  have kA := hA10.cell
  have kF := hF10.cell
  have kG := hG10.cell
  have kB := hB10.cell
  go_wp2_with fail
  go_ret
  exact ⟨rfl, hw10⟩

theorem walk (n nights : Int) (w : World) :
    Calls Try.prog 21 #[.int .i64 n, .int .i64 nights] w fun e w' => e = .returned (.bool true) ∧ Below w.heap.size w w' := by
  have F1 := Lib.hid fun w => Lib.hid (fold_any n 73049 w (by omega) (by omega))
  have x1 : 0 ≤ n % 73049 := by omega
  have x2 : n % 73049 < 73049 := by omega
  generalize n % 73049 = x at *
  have F2 := Lib.hid fun w => Lib.hid (fold_any nights (766702 - (693654 + x) + 1) w (by omega) (by omega))
  have n1 : 0 ≤ nights % (766702 - (693654 + x) + 1) := Int.emod_nonneg _ (by omega)
  have n2 : nights % (766702 - (693654 + x) + 1) < 766702 - (693654 + x) + 1 := Int.emod_lt_of_pos _ (by omega)
  generalize nights % (766702 - (693654 + x) + 1) = N at *
  obtain ⟨y, m, d, hd, hn⟩ := Cal.exists_date (693654 + x) (by omega) (by omega)
  obtain ⟨c, rfl⟩ : ∃ c : Nat, N = (c : Int) := ⟨N.toNat, by omega⟩
  have M3 := Lib.hid fun w => Lib.hid (rDate_yes y m d w hd)
  rw [hn] at M3
  have M4 := Lib.hid fun w => Lib.hid (Set_yes y m d 5 w hd (by omega) (by omega))
  have M5 := Lib.hid fun w => Lib.hid (Midnight_yes (Fc.set y m d 5) c w (set_ok hd (by omega) (by omega)) (by omega) (by omega))
  have hk := fun (j : Nat) (hj : (j : Int) ≤ 766702 - (693654 + x)) => Cal.days_ok (x := (y, m, d)) hd j (by show Cal.num y m d + j ≤ _; rw [hn]; omega)
  have hno : ∀ j : Nat, (j : Int) < 766702 - (693654 + x) → Cal.crit (Cal.days j (y, m, d)) = false := fun j hj => by
    have a := hk j (by omega)
    have e : Cal.numT (Cal.days j (y, m, d)) = 693654 + x + j := by rw [a.2]; show Cal.num y m d + j = _; rw [hn]
    exact crit_between a.1 (by rw [e]; omega) (by rw [e]; omega)
  have a := hk c (by omega)
  have e6 : Cal.num (Cal.days c (y, m, d)).1 (Cal.days c (y, m, d)).2.1 (Cal.days c (y, m, d)).2.2 = 693654 + x + c := by have := a.2; show Cal.numT _ = _; rw [this]; show Cal.num y m d + c = _; rw [hn]
  have M6 := Lib.hid fun w => Lib.hid (rDate_yes _ _ _ w a.1)
  rw [e6] at M6
  have hs := Fc.good_of (o := 5) hd c (by rw [hn]; omega) fun j hj => hno j (by omega)
  have M7 := Lib.hid fun w => Lib.hid (Shows_yes (Fc.nights c (Fc.set y m d 5)) _ _ _ w (Fc.nights_ok (set_ok hd (by omega) (by omega)) c) a.1)
  have hs2 : (Fc.nights c (Fc.set y m d 5)).showsB (Cal.days c (y, m, d)).1 (Cal.days c (y, m, d)).2.1 (Cal.days c (y, m, d)).2.2 = true := by
    unfold Fc.badB at hs
    simpa using hs
  rw [hs2] at M7
  have hL := (Fc.same_nights (x := (y, m, d)) hd (Fc.set_same y m d 5) c (by show Cal.num y m d + c ≤ _; rw [hn]; omega) fun j hj => hno j (by omega)).2.2
  have M8 := Lib.hid fun w => Lib.hid (Wrong_yes y m d c w hd (by omega) (by rw [hn]; omega))
  rw [Fc.first_none _ _ fun j _ hj => Fc.good_of hd j (by rw [hn]; omega) fun i hi => hno i (by omega)] at M8
  obtain ⟨k, hkk⟩ : ∃ k : Nat, (k : Int) = 766702 - (693654 + x) := ⟨(766702 - (693654 + x)).toNat, by omega⟩
  have b := hk k (by omega)
  have eH : Cal.days k (y, m, d) = (2100, 2, 28) := by
    have hi := Cal.num_inj (y' := 2100) (m' := 2) (d' := 28) b.1 (by decide) (by rw [num_H]; have := b.2; show Cal.numT _ = _; rw [this]; show Cal.num y m d + k = _; rw [hn]; omega)
    exact Prod.ext hi.1 (Prod.ext hi.2.1 hi.2.2)
  have M9 := Lib.hid fun w => Lib.hid (Wrong_yes y m d (k + 1) w hd (by omega) (by rw [hn]; omega))
  rw [Fc.first_some (p := Fc.badB (Fc.set y m d 0) (y, m, d)) (k + 1 + 1) 0 (k + 1) (by omega) (by omega) (fun j _ hj => Fc.good_of hd j (by rw [hn]; omega) fun i hi => hno i (by omega)) (Fc.bad_of hd k (by rw [hn]; omega) (fun j hj => hno j (by omega)) (by rw [eH]; exact crit_H)),
    show ((k + 1 : Nat) : Int) = 766703 - (693654 + x) by omega] at M9
  exact walk_main n nights x c y m d _ _ _ (Fc.set y m d 5) (Fc.nights c (Fc.set y m d 5)) w x1 x2 n1 (by omega) F1 F2 M3 M4 M5 M6 M7 M8 M9 (by simp [hL]) (by have := a.1.1; omega)

set_option maxRecDepth 100000 in
theorem lifted (os : Os) (started : os.Started) (H : Type) (enc : TypeId × Value → H) :
    ReturnsInHanded {} Try.checked os 21 .any (Rows.dialPerpetualSpec.pre6 enc Try.prog Try.f21 Rows.dialPerpetualRow.domain false) (Rows.dialPerpetualSpec.post enc Try.prog Try.f21 false true false false) := by
  refine returnsInHanded_of_change (C := Try.checked) Try.own started (by kernel_rfl) Try.func21
    (ChangeSpec.witness6 (enc := enc) (C := Try.checked) false ⟨#[], #[.int .i64 0, .int .i64 0], []⟩ 8 (by kernel_rfl) (by kernel_rfl) (by kernel_rfl) (by kernel_rfl)) ?_
  intro W base args ds gs before hval0 hW hcnd _
  have hval : ∀ (j : Nat) t v, Try.f21.params[j]? = some t → args[j]? = some v → Value.okWide Try.prog W .any base t v := hval0
  have hW' := hW
  obtain ⟨p, q, hA0, hV, rfl, hfz, hnd⟩ := hW
  have hA : DataW.TrodAll enc Try.prog W 0 (fun _ => true) true Try.f21.params.toList args.toList ds p := hA0
  rw [Try.params21] at hA hval
  obtain ⟨v0, vs0, d0, ds0, p0, q0, hargs, rfl, rfl, h0, r0⟩ := trodAll_cons hA
  obtain ⟨v1, vs1, d1, ds1, p1, q1, rfl, rfl, rfl, h1, r1⟩ := trodAll_cons r0
  obtain ⟨rfl, rfl, rfl⟩ := trodAll_nil r1
  obtain rfl : args = #[v0, v1] := by cases args; simp_all
  obtain ⟨rfl, rfl⟩ := trodVars_none hV
  obtain ⟨a0, rfl, rfl, rfl, w0⟩ := open_int Try.underlying3 (hval 0 3 v0 rfl rfl) h0
  obtain ⟨a1, rfl, rfl, rfl, w1⟩ := open_int Try.underlying3 (hval 1 3 v1 rfl rfl) h1
  refine (walk a0 a1 W).mono fun e W' ⟨he, hb⟩ => ?_
  exact ⟨_, he, law_post rfl (by kernel_rfl) (by kernel_rfl) hW' rfl rfl rfl hb⟩

set_option maxRecDepth 100000 in
theorem facts : joinedFacts Try.prog 21 Try.f21 Rows.dialPerpetualSpec Rows.dialPerpetualRow = true := by
  unfold joinedFacts
  repeat' (with_reducible refine and_t ?_ ?_)
  all_goals first
    | with_reducible exact Try.enters
    | (rw [Try.finals]; as_aux_lemma => kernel_rfl)
    | (rw [Try.made]; as_aux_lemma => kernel_rfl)
    | (as_aux_lemma => kernel_rfl)

theorem proved : Rows.DialPerpetualSaid :=
  OpenClaim.holds_of_wide 21 Try.f21 rfl rfl rfl rfl rfl rfl rfl ⟨rfl, rfl, rfl, rfl, rfl⟩ rfl rfl rfl rfl rfl (by as_aux_lemma => kernel_rfl) Try.func21 facts
    (of_decide_eq_true (by as_aux_lemma => kernel_rfl)) (by unfold Func.isWrapper; rw [if_neg (of_decide_eq_false (by kernel_rfl))]; exact ⟨rfl, rfl⟩)
    (fun os started H enc _ => lifted os started H enc)
#print axioms proved
end Go.Proofs.Ytjlnkghjiaglmaa.dialPerpetual
