/-
  Proved: DialWrongs: Wrong returns after how many midnights the face is wrong first, or the error that the document names.
  Conditions: none.
-/
import Derived.Test.YtjlnkghjiaglmaaOpens
import Derived.Test.YtjlnkghjiaglmaaLives
import Derived.Test.YtjlnkghjiaglmaaRWrong
namespace Go.Proofs.Ytjlnkghjiaglmaa.dialWrongs
open Go.ChangeShapes Go.WideShapes Go.ChangeAt Go.RowKit

set_option maxHeartbeats 2000000 in
theorem walk_bad (y m d nights N : Int) (w : World) (M0 : Hid (∀ w, Hid (Calls Try.prog 51 #[.int .i64 nights, .int .i64 6000] w fun e w' => e = .returned (.int .i64 N) ∧ w = w'))) (M1 : Hid (∀ w, Hid (Calls Try.prog 58 #[D3 y m d, .int .i64 N] w fun e w' => e = .returned (.tuple #[.int .i64 0, .int .i64 1]) ∧ Below w.heap.size w w'))) (M2 : Hid (∀ w, Hid (Calls Try.prog 39 #[D3 y m d] w fun e w' => e = .returned (.bool false) ∧ Below w.heap.size w w'))) :
    Calls Try.prog 19 #[D3 y m d, .int .i64 nights] w fun e w' => e = .returned (.bool true) ∧ Below w.heap.size w w' := by
  go_enter Try.func19, Try.ntmps19
  have hw0 : Below w.heap.size w w := Below.refl _ _
  go_wp2_with fail
  refine ((M0.out _).out).mono ?_; rintro e w' ⟨rfl, rfl⟩
  go_wp2_with fail
  refine ((M1.out _).out).mono ?_; rintro e w1 ⟨rfl, hb1⟩
  have hD1 := (Blk.new w 30 #[.int .i64 y, .int .i64 m, .int .i64 d]).later hb1
  have hw1 := (hw0.alloc (by first | omega | (simp; omega) | simp) _).trans (hb1.mono (by first | omega | (simp; omega) | simp))
  have s1 := hb1.size
  simp at s1
  have lD1 := hD1.lt
  have kD := hD1.cell
  go_wp2_with fail
  refine ((M2.out _).out).mono ?_; rintro e w2 ⟨rfl, hb2⟩
  have hD2 := hD1.later hb2
  have hw2 := hw1.trans (hb2.mono (by first | omega | (simp; omega) | simp))
  have s2 := hb2.size
  have lD2 := hD2.lt
  clear kD
  have kD := hD2.cell
  go_wp2_with fail
  refine (lives_any _).mono ?_; rintro e w3 ⟨rfl, hb3⟩
  have hD3 := hD2.later hb3
  have hw3 := hw2.trans (hb3.mono (by first | omega | (simp; omega) | simp))
  have s3 := hb3.size
  have lD3 := hD3.lt
  clear kD
  have kD := hD3.cell
  go_wp2_with fail
  go_ret
  exact ⟨rfl, hw3⟩

set_option maxHeartbeats 2000000 in
theorem walk_neg (y m d nights N : Int) (w : World) (M0 : Hid (∀ w, Hid (Calls Try.prog 51 #[.int .i64 nights, .int .i64 6000] w fun e w' => e = .returned (.int .i64 N) ∧ w = w'))) (M1 : Hid (∀ w, Hid (Calls Try.prog 58 #[D3 y m d, .int .i64 N] w fun e w' => e = .returned (.tuple #[.int .i64 0, .int .i64 1]) ∧ Below w.heap.size w w'))) (M2 : Hid (∀ w, Hid (Calls Try.prog 39 #[D3 y m d] w fun e w' => e = .returned (.bool true) ∧ Below w.heap.size w w'))) (n1 : N < 0) :
    Calls Try.prog 19 #[D3 y m d, .int .i64 nights] w fun e w' => e = .returned (.bool true) ∧ Below w.heap.size w w' := by
  go_enter Try.func19, Try.ntmps19
  have hw0 : Below w.heap.size w w := Below.refl _ _
  go_wp2_with fail
  refine ((M0.out _).out).mono ?_; rintro e w' ⟨rfl, rfl⟩
  go_wp2_with fail
  refine ((M1.out _).out).mono ?_; rintro e w1 ⟨rfl, hb1⟩
  have hD1 := (Blk.new w 30 #[.int .i64 y, .int .i64 m, .int .i64 d]).later hb1
  have hw1 := (hw0.alloc (by first | omega | (simp; omega) | simp) _).trans (hb1.mono (by first | omega | (simp; omega) | simp))
  have s1 := hb1.size
  simp at s1
  have lD1 := hD1.lt
  have kD := hD1.cell
  go_wp2_with fail
  refine ((M2.out _).out).mono ?_; rintro e w2 ⟨rfl, hb2⟩
  have hD2 := hD1.later hb2
  have hw2 := hw1.trans (hb2.mono (by first | omega | (simp; omega) | simp))
  have s2 := hb2.size
  have lD2 := hD2.lt
  clear kD
  have kD := hD2.cell
  go_wp2_with fail
  refine (lives_any _).mono ?_; rintro e w3 ⟨rfl, hb3⟩
  have hD3 := hD2.later hb3
  have hw3 := hw2.trans (hb3.mono (by first | omega | (simp; omega) | simp))
  have s3 := hb3.size
  have lD3 := hD3.lt
  clear kD
  have kD := hD3.cell
  go_wp2_with fail
  go_ret
  exact ⟨rfl, hw3⟩

set_option maxHeartbeats 2000000 in
theorem walk_many (y m d nights N : Int) (w : World) (M0 : Hid (∀ w, Hid (Calls Try.prog 51 #[.int .i64 nights, .int .i64 6000] w fun e w' => e = .returned (.int .i64 N) ∧ w = w'))) (M1 : Hid (∀ w, Hid (Calls Try.prog 58 #[D3 y m d, .int .i64 N] w fun e w' => e = .returned (.tuple #[.int .i64 0, .int .i64 1]) ∧ Below w.heap.size w w'))) (M2 : Hid (∀ w, Hid (Calls Try.prog 39 #[D3 y m d] w fun e w' => e = .returned (.bool true) ∧ Below w.heap.size w w'))) (n1 : 0 ≤ N) (n2 : decide (N ≤ 100000) = false) :
    Calls Try.prog 19 #[D3 y m d, .int .i64 nights] w fun e w' => e = .returned (.bool true) ∧ Below w.heap.size w w' := by
  go_enter Try.func19, Try.ntmps19
  have hw0 : Below w.heap.size w w := Below.refl _ _
  go_wp2_with fail
  refine ((M0.out _).out).mono ?_; rintro e w' ⟨rfl, rfl⟩
  go_wp2_with fail
  refine ((M1.out _).out).mono ?_; rintro e w1 ⟨rfl, hb1⟩
  have hD1 := (Blk.new w 30 #[.int .i64 y, .int .i64 m, .int .i64 d]).later hb1
  have hw1 := (hw0.alloc (by first | omega | (simp; omega) | simp) _).trans (hb1.mono (by first | omega | (simp; omega) | simp))
  have s1 := hb1.size
  simp at s1
  have lD1 := hD1.lt
  have kD := hD1.cell
  go_wp2_with fail
  refine ((M2.out _).out).mono ?_; rintro e w2 ⟨rfl, hb2⟩
  have hD2 := hD1.later hb2
  have hw2 := hw1.trans (hb2.mono (by first | omega | (simp; omega) | simp))
  have s2 := hb2.size
  have lD2 := hD2.lt
  clear kD
  have kD := hD2.cell
  go_wp2_with fail
  refine (lives_any _).mono ?_; rintro e w3 ⟨rfl, hb3⟩
  have hD3 := hD2.later hb3
  have hw3 := hw2.trans (hb3.mono (by first | omega | (simp; omega) | simp))
  have s3 := hb3.size
  have lD3 := hD3.lt
  clear kD
  have kD := hD3.cell
  go_wp2_with fail
  go_ret
  exact ⟨rfl, hw3⟩

set_option maxHeartbeats 2000000 in
theorem walk_late (y m d nights N K : Int) (w : World) (M0 : Hid (∀ w, Hid (Calls Try.prog 51 #[.int .i64 nights, .int .i64 6000] w fun e w' => e = .returned (.int .i64 N) ∧ w = w'))) (M1 : Hid (∀ w, Hid (Calls Try.prog 58 #[D3 y m d, .int .i64 N] w fun e w' => e = .returned (.tuple #[.int .i64 0, .int .i64 1]) ∧ Below w.heap.size w w'))) (M2 : Hid (∀ w, Hid (Calls Try.prog 39 #[D3 y m d] w fun e w' => e = .returned (.bool true) ∧ Below w.heap.size w w'))) (n1 : 0 ≤ N) (n2 : N ≤ 100000) (k1 : 0 ≤ K) (k2 : K ≤ 4000000) (M3 : Hid (∀ w, Hid (Calls Try.prog 44 #[D3 y m d] w fun e w' => e = .returned (.int .i64 K) ∧ Below w.heap.size w w'))) (M4 : Hid (∀ w, Hid (Calls Try.prog 46 #[.int .i64 (K + N)] w fun e w' => e = .returned (.tuple #[D3 0 0 0, .bool false]) ∧ Below w.heap.size w w'))) :
    Calls Try.prog 19 #[D3 y m d, .int .i64 nights] w fun e w' => e = .returned (.bool true) ∧ Below w.heap.size w w' := by
  go_enter Try.func19, Try.ntmps19
  have hw0 : Below w.heap.size w w := Below.refl _ _
  go_wp2_with fail
  refine ((M0.out _).out).mono ?_; rintro e w' ⟨rfl, rfl⟩
  go_wp2_with fail
  refine ((M1.out _).out).mono ?_; rintro e w1 ⟨rfl, hb1⟩
  have hD1 := (Blk.new w 30 #[.int .i64 y, .int .i64 m, .int .i64 d]).later hb1
  have hw1 := (hw0.alloc (by first | omega | (simp; omega) | simp) _).trans (hb1.mono (by first | omega | (simp; omega) | simp))
  have s1 := hb1.size
  simp at s1
  have lD1 := hD1.lt
  have kD := hD1.cell
  go_wp2_with fail
  refine ((M2.out _).out).mono ?_; rintro e w2 ⟨rfl, hb2⟩
  have hD2 := hD1.later hb2
  have hw2 := hw1.trans (hb2.mono (by first | omega | (simp; omega) | simp))
  have s2 := hb2.size
  have lD2 := hD2.lt
  clear kD
  have kD := hD2.cell
  go_wp2_with fail
  refine ((M3.out _).out).mono ?_; rintro e w3 ⟨rfl, hb3⟩
  have hD3 := hD2.later hb3
  have hw3 := hw2.trans (hb3.mono (by first | omega | (simp; omega) | simp))
  have s3 := hb3.size
  have lD3 := hD3.lt
  clear kD
  have kD := hD3.cell
  go_wp2_with fail
  refine ((M4.out _).out).mono ?_; rintro e w4 ⟨rfl, hb4⟩
  have hD4 := hD3.later hb4
  have hw4 := hw3.trans (hb4.mono (by first | omega | (simp; omega) | simp))
  have s4 := hb4.size
  have lD4 := hD4.lt
  clear kD
  have kD := hD4.cell
  go_wp2_with fail
  refine (lives_any _).mono ?_; rintro e w5 ⟨rfl, hb5⟩
  have hD5 := hD4.later hb5
  have hw5 := hw4.trans (hb5.mono (by first | omega | (simp; omega) | simp))
  have s5 := hb5.size
  have lD5 := hD5.lt
  clear kD
  have kD := hD5.cell
  go_wp2_with fail
  go_ret
  exact ⟨rfl, hw5⟩

set_option maxHeartbeats 2000000 in
theorem walk_fine (y m d nights N K r y' m' d' : Int) (w : World) (M0 : Hid (∀ w, Hid (Calls Try.prog 51 #[.int .i64 nights, .int .i64 6000] w fun e w' => e = .returned (.int .i64 N) ∧ w = w'))) (M1 : Hid (∀ w, Hid (Calls Try.prog 58 #[D3 y m d, .int .i64 N] w fun e w' => e = .returned (.tuple #[.int .i64 r, .int .i64 0]) ∧ Below w.heap.size w w'))) (M2 : Hid (∀ w, Hid (Calls Try.prog 39 #[D3 y m d] w fun e w' => e = .returned (.bool true) ∧ Below w.heap.size w w'))) (n1 : 0 ≤ N) (n2 : N ≤ 100000) (k1 : 0 ≤ K) (k2 : K ≤ 4000000) (M3 : Hid (∀ w, Hid (Calls Try.prog 44 #[D3 y m d] w fun e w' => e = .returned (.int .i64 K) ∧ Below w.heap.size w w'))) (M4 : Hid (∀ w, Hid (Calls Try.prog 46 #[.int .i64 (K + N)] w fun e w' => e = .returned (.tuple #[D3 y' m' d', .bool true]) ∧ Below w.heap.size w w'))) (M5 : Hid (∀ w, Hid (Calls Try.prog 59 #[D3 y m d, .int .i64 N] w fun e w' => e = .returned (.int .i64 r) ∧ Below w.heap.size w w'))) :
    Calls Try.prog 19 #[D3 y m d, .int .i64 nights] w fun e w' => e = .returned (.bool true) ∧ Below w.heap.size w w' := by
  go_enter Try.func19, Try.ntmps19
  have hw0 : Below w.heap.size w w := Below.refl _ _
  go_wp2_with fail
  refine ((M0.out _).out).mono ?_; rintro e w' ⟨rfl, rfl⟩
  go_wp2_with fail
  refine ((M1.out _).out).mono ?_; rintro e w1 ⟨rfl, hb1⟩
  have hD1 := (Blk.new w 30 #[.int .i64 y, .int .i64 m, .int .i64 d]).later hb1
  have hw1 := (hw0.alloc (by first | omega | (simp; omega) | simp) _).trans (hb1.mono (by first | omega | (simp; omega) | simp))
  have s1 := hb1.size
  simp at s1
  have lD1 := hD1.lt
  have kD := hD1.cell
  go_wp2_with fail
  refine ((M2.out _).out).mono ?_; rintro e w2 ⟨rfl, hb2⟩
  have hD2 := hD1.later hb2
  have hw2 := hw1.trans (hb2.mono (by first | omega | (simp; omega) | simp))
  have s2 := hb2.size
  have lD2 := hD2.lt
  clear kD
  have kD := hD2.cell
  go_wp2_with fail
  refine ((M3.out _).out).mono ?_; rintro e w3 ⟨rfl, hb3⟩
  have hD3 := hD2.later hb3
  have hw3 := hw2.trans (hb3.mono (by first | omega | (simp; omega) | simp))
  have s3 := hb3.size
  have lD3 := hD3.lt
  clear kD
  have kD := hD3.cell
  go_wp2_with fail
  refine ((M4.out _).out).mono ?_; rintro e w4 ⟨rfl, hb4⟩
  have hD4 := hD3.later hb4
  have hw4 := hw3.trans (hb4.mono (by first | omega | (simp; omega) | simp))
  have s4 := hb4.size
  have lD4 := hD4.lt
  clear kD
  have kD := hD4.cell
  go_wp2_with fail
  refine ((M5.out _).out).mono ?_; rintro e w5 ⟨rfl, hb5⟩
  have hD5 := hD4.later hb5
  have hw5 := hw4.trans (hb5.mono (by first | omega | (simp; omega) | simp))
  have s5 := hb5.size
  have lD5 := hD5.lt
  clear kD
  have kD := hD5.cell
  go_wp2_with fail
  refine (lives_any _).mono ?_; rintro e w6 ⟨rfl, hb6⟩
  have hD6 := hD5.later hb6
  have hw6 := hw5.trans (hb6.mono (by first | omega | (simp; omega) | simp))
  have s6 := hb6.size
  have lD6 := hD6.lt
  clear kD
  have kD := hD6.cell
  go_wp2_with fail
  go_ret
  exact ⟨rfl, hw6⟩

theorem walk (y m d nights : Int) (w : World) :
    Calls Try.prog 19 #[D3 y m d, .int .i64 nights] w fun e w' => e = .returned (.bool true) ∧ Below w.heap.size w w' := by
  obtain ⟨N, hN⟩ : ∃ N, N = fewN nights 6000 := ⟨_, rfl⟩
  have M0 : Hid (∀ w, Hid (Calls Try.prog 51 #[.int .i64 nights, .int .i64 6000] w fun e w' => e = .returned (.int .i64 N) ∧ w = w')) := Lib.hid fun w => Lib.hid (by rw [hN]; exact fewer_any nights 6000 w (by omega) (by omega))
  by_cases hd : Cal.ok y m d
  · have M2 := Lib.hid fun w => Lib.hid (rValid_yes y m d w hd)
    have M3 := Lib.hid fun w => Lib.hid (rNumber_any y m d w hd)
    have hb := Cal.num_bd hd
    by_cases h0 : 0 ≤ N
    · by_cases h1 : N ≤ 100000
      · by_cases h2 : Cal.num y m d + N ≤ 3652058
        · obtain ⟨n, rfl⟩ : ∃ n : Nat, N = (n : Int) := ⟨N.toNat, by omega⟩
          have hk := Cal.days_ok (x := (y, m, d)) hd n h2
          refine walk_fine y m d nights n (Cal.num y m d) _ (Cal.days n (y, m, d)).1 (Cal.days n (y, m, d)).2.1 (Cal.days n (y, m, d)).2.2 w M0 (Lib.hid fun w => Lib.hid (Wrong_yes y m d n w hd (by omega) h2)) M2 h0 h1 hb.1 (by omega) M3 (Lib.hid fun w => Lib.hid ?_)
            (Lib.hid fun w => Lib.hid (rWrong_any y m d n w hd (by omega) h2))
          have e : Cal.num y m d + n = Cal.num (Cal.days n (y, m, d)).1 (Cal.days n (y, m, d)).2.1 (Cal.days n (y, m, d)).2.2 := hk.2.symm
          rw [e]
          exact rDate_yes _ _ _ w hk.1
        · exact walk_late y m d nights N (Cal.num y m d) w M0 (Lib.hid fun w => Lib.hid (Wrong_no y m d N w fun h => h2 h.2.2.2)) M2 h0 h1 hb.1 (by omega) M3 (Lib.hid fun w => Lib.hid (rDate_no _ w (by omega)))
      · exact walk_many y m d nights N w M0 (Lib.hid fun w => Lib.hid (Wrong_no y m d N w fun h => h1 h.2.2.1)) M2 h0 (by simp; omega)
    · exact walk_neg y m d nights N w M0 (Lib.hid fun w => Lib.hid (Wrong_no y m d N w fun h => h0 h.2.1)) M2 (by omega)
  · exact walk_bad y m d nights N w M0 (Lib.hid fun w => Lib.hid (Wrong_no y m d N w fun h => hd h.1)) (Lib.hid fun w => Lib.hid (rValid_no y m d w hd))

set_option maxRecDepth 100000 in
theorem lifted (os : Os) (started : os.Started) (H : Type) (enc : TypeId × Value → H) :
    ReturnsInHanded {} Try.checked os 19 .any (Rows.dialWrongsSpec.pre6 enc Try.prog Try.f19 Rows.dialWrongsRow.domain false) (Rows.dialWrongsSpec.post enc Try.prog Try.f19 false true false false) := by
  refine returnsInHanded_of_change (C := Try.checked) Try.own started (by kernel_rfl) Try.func19
    (ChangeSpec.witness6 (enc := enc) (C := Try.checked) false ⟨#[], #[.agg #[.int .i64 0, .int .i64 0, .int .i64 0], .int .i64 0], []⟩ 8 (by kernel_rfl) (by kernel_rfl) (by kernel_rfl) (by kernel_rfl)) ?_
  intro W base args ds gs before hval0 hW hcnd _
  have hval : ∀ (j : Nat) t v, Try.f19.params[j]? = some t → args[j]? = some v → Value.okWide Try.prog W .any base t v := hval0
  have hW' := hW
  obtain ⟨p, q, hA0, hV, rfl, hfz, hnd⟩ := hW
  have hA : DataW.TrodAll enc Try.prog W 0 (fun _ => true) true Try.f19.params.toList args.toList ds p := hA0
  rw [Try.params19] at hA hval
  obtain ⟨v0, vs0, d0, ds0, p0, q0, hargs, rfl, rfl, h0, r0⟩ := trodAll_cons hA
  obtain ⟨v1, vs1, d1, ds1, p1, q1, rfl, rfl, rfl, h1, r1⟩ := trodAll_cons r0
  obtain ⟨rfl, rfl, rfl⟩ := trodAll_nil r1
  obtain rfl : args = #[v0, v1] := by cases args; simp_all
  obtain ⟨rfl, rfl⟩ := trodVars_none hV
  obtain ⟨a00, a01, a02, rfl⟩ := open_D (hval 0 30 v0 rfl rfl) h0
  obtain ⟨a1, rfl, rfl, rfl, w1⟩ := open_int Try.underlying3 (hval 1 3 v1 rfl rfl) h1
  refine (walk a00 a01 a02 a1 W).mono fun e W' ⟨he, hb⟩ => ?_
  exact ⟨_, he, law_post rfl (by kernel_rfl) (by kernel_rfl) hW' rfl rfl rfl hb⟩

set_option maxRecDepth 100000 in
theorem facts : joinedFacts Try.prog 19 Try.f19 Rows.dialWrongsSpec Rows.dialWrongsRow = true := by
  unfold joinedFacts
  repeat' (with_reducible refine and_t ?_ ?_)
  all_goals first
    | with_reducible exact Try.enters
    | (rw [Try.finals]; as_aux_lemma => kernel_rfl)
    | (rw [Try.made]; as_aux_lemma => kernel_rfl)
    | (as_aux_lemma => kernel_rfl)

theorem proved : Rows.DialWrongsSaid :=
  OpenClaim.holds_of_wide 19 Try.f19 rfl rfl rfl rfl rfl rfl rfl ⟨rfl, rfl, rfl, rfl, rfl⟩ rfl rfl rfl rfl rfl (by as_aux_lemma => kernel_rfl) Try.func19 facts
    (of_decide_eq_true (by as_aux_lemma => kernel_rfl)) (by unfold Func.isWrapper; rw [if_neg (of_decide_eq_false (by kernel_rfl))]; exact ⟨rfl, rfl⟩)
    (fun os started H enc _ => lifted os started H enc)
#print axioms proved
end Go.Proofs.Ytjlnkghjiaglmaa.dialWrongs
