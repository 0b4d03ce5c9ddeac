/-
  Proved: DialFirst: the midnight after which the face is wrong first ends a 28 February of a year that 4 divides and that is no leap year.
  Conditions: none.
-/
import Derived.Test.YtjlnkghjiaglmaaOpens
import Derived.Test.YtjlnkghjiaglmaaLives
import Derived.Test.YtjlnkghjiaglmaaRWrong
import Derived.Test.YtjlnkghjiaglmaaSome
namespace Go.Proofs.Ytjlnkghjiaglmaa.dialFirst
open Go.ChangeShapes Go.WideShapes Go.ChangeAt Go.RowKit

theorem Leap_is (q : Int) (b : Bool) (w : World) (h : 0 ≤ q) (e : Cal.lp q = b) : Calls Try.prog 25 #[.int .i64 q] w fun e w' => e = .returned (.bool b) ∧ w = w' := by
  rw [← e]
  exact Leap_any q w h
theorem mod_step {q : Int} (h : Hid (q % 100 = 0)) : Hid ((q + 100) % 100 = 0) := by
  have := h.out
  show (q + 100) % 100 = 0
  omega
theorem ok_28 {q : Int} (h1 : 100 ≤ q) (h2 : q ≤ 9999) : Cal.ok q 2 28 := ⟨by omega, h2, by omega, by omega, by omega, (Cal.dl_bd 2 (Cal.lp q)).1⟩

set_option maxHeartbeats 4000000 in
theorem walk_over (y m d n nights K N : Int) (w : World) (M1 : Hid (∀ w, Hid (Calls Try.prog 26 #[.int .i64 n] w fun e w' => e = .returned (D3 y m d) ∧ Below w.heap.size w w'))) (M2 : Hid (∀ w, Hid (Calls Try.prog 48 #[.int .i64 nights, .int .i64 80000] w fun e w' => e = .returned (.int .i64 N) ∧ w = w'))) (M3 : Hid (∀ w, Hid (Calls Try.prog 44 #[D3 y m d] w fun e w' => e = .returned (.int .i64 K) ∧ Below w.heap.size w w'))) (k1 : 0 ≤ K) (k2 : K ≤ 4000000) (n1 : 0 ≤ N) (n2 : N ≤ 80000) (M4 : Hid (∀ w, Hid (Calls Try.prog 46 #[.int .i64 (K + N)] w fun e w' => e = .returned (.tuple #[D3 0 0 0, .bool false]) ∧ Below w.heap.size w w'))) :
    Calls Try.prog 20 #[.int .i64 n, .int .i64 nights] w fun e w' => e = .returned (.bool true) ∧ Below w.heap.size w w' := by
  go_enter Try.func20, Try.ntmps20
  have hw0 : Below w.heap.size w w := Below.refl _ _
  go_wp2_with fail
  refine ((M1.out _).out).mono ?_; rintro e w1 ⟨rfl, hb1⟩
  have hw1 := hw0.trans (hb1.mono (by first | omega | (simp; omega) | simp))
  have s1 := hb1.size
  go_wp2_with fail
  refine ((M2.out _).out).mono ?_; rintro e w' ⟨rfl, rfl⟩
  go_wp2_with fail
  refine ((M3.out _).out).mono ?_; rintro e w2 ⟨rfl, hb2⟩
  have hA2 := (Blk.new w1 30 #[.int .i64 y, .int .i64 m, .int .i64 d]).later hb2
  have hw2 := (hw1.alloc (by first | omega | (simp; omega) | simp) _).trans (hb2.mono (by first | omega | (simp; omega) | simp))
  have s2 := hb2.size
  simp at s2
  have lA2 := hA2.lt
  have kA := hA2.cell
  go_wp2_with fail
  refine ((M4.out _).out).mono ?_; rintro e w3 ⟨rfl, hb3⟩
  have hA3 := hA2.later hb3
  have hw3 := hw2.trans (hb3.mono (by first | omega | (simp; omega) | simp))
  have s3 := hb3.size
  have lA3 := hA3.lt
  clear kA
  have kA := hA3.cell
  go_wp2_with fail
  refine (lives_any _).mono ?_; rintro e w4 ⟨rfl, hb4⟩
  have hA4 := (hA3.alloc _).later hb4
  have hB4 := (Blk.new w3 30 #[.int .i64 0, .int .i64 0, .int .i64 0]).later hb4
  have hw4 := (hw3.alloc (by first | omega | (simp; omega) | simp) _).trans (hb4.mono (by first | omega | (simp; omega) | simp))
  have s4 := hb4.size
  simp at s4
  have lA4 := hA4.lt
  have lB4 := hB4.lt
  clear kA
  have kA := hA4.cell
  have kB := hB4.cell
  go_wp2_with fail
  go_ret
  exact ⟨rfl, hw4⟩

set_option maxHeartbeats 4000000 in
theorem walk_some (y m d n nights K N y' m' d' k Y : Int) (w : World) (M1 : Hid (∀ w, Hid (Calls Try.prog 26 #[.int .i64 n] w fun e w' => e = .returned (D3 y m d) ∧ Below w.heap.size w w'))) (M2 : Hid (∀ w, Hid (Calls Try.prog 48 #[.int .i64 nights, .int .i64 80000] w fun e w' => e = .returned (.int .i64 N) ∧ w = w'))) (M3 : Hid (∀ w, Hid (Calls Try.prog 44 #[D3 y m d] w fun e w' => e = .returned (.int .i64 K) ∧ Below w.heap.size w w'))) (k1 : 0 ≤ K) (k2 : K ≤ 4000000) (n1 : 0 ≤ N) (n2 : N ≤ 80000) (M4 : Hid (∀ w, Hid (Calls Try.prog 46 #[.int .i64 (K + N)] w fun e w' => e = .returned (.tuple #[D3 y' m' d', .bool true]) ∧ Below w.heap.size w w'))) (M5 : Hid (∀ w, Hid (Calls Try.prog 58 #[D3 y m d, .int .i64 N] w fun e w' => e = .returned (.tuple #[.int .i64 (k + 1), .int .i64 0]) ∧ Below w.heap.size w w'))) (M6 : Hid (∀ w, Hid (Calls Try.prog 46 #[.int .i64 (K + k)] w fun e w' => e = .returned (.tuple #[D3 Y 2 28, .bool true]) ∧ Below w.heap.size w w'))) (j1 : 0 ≤ k) (j2 : k < N) (j3 : (k + 1 == 0) = false) (j4 : (k + 1 == -1) = false) (y1 : 0 ≤ Y) (y4 : (Y % 4 == 0) = true) (yl : Hid (Cal.lp Y = false)) :
    Calls Try.prog 20 #[.int .i64 n, .int .i64 nights] w fun e w' => e = .returned (.bool true) ∧ Below w.heap.size w w' := by
  go_enter Try.func20, Try.ntmps20
  have hw0 : Below w.heap.size w w := Below.refl _ _
  go_wp2_with fail
  refine ((M1.out _).out).mono ?_; rintro e w1 ⟨rfl, hb1⟩
  have hw1 := hw0.trans (hb1.mono (by first | omega | (simp; omega) | simp))
  have s1 := hb1.size
  go_wp2_with fail
  refine ((M2.out _).out).mono ?_; rintro e w' ⟨rfl, rfl⟩
  go_wp2_with fail
  refine ((M3.out _).out).mono ?_; rintro e w2 ⟨rfl, hb2⟩
  have hA2 := (Blk.new w1 30 #[.int .i64 y, .int .i64 m, .int .i64 d]).later hb2
  have hw2 := (hw1.alloc (by first | omega | (simp; omega) | simp) _).trans (hb2.mono (by first | omega | (simp; omega) | simp))
  have s2 := hb2.size
  simp at s2
  have lA2 := hA2.lt
  have kA := hA2.cell
  go_wp2_with fail
  refine ((M4.out _).out).mono ?_; rintro e w3 ⟨rfl, hb3⟩
  have hA3 := hA2.later hb3
  have hw3 := hw2.trans (hb3.mono (by first | omega | (simp; omega) | simp))
  have s3 := hb3.size
  have lA3 := hA3.lt
  clear kA
  have kA := hA3.cell
  go_wp2_with fail
  refine ((M5.out _).out).mono ?_; rintro e w4 ⟨rfl, hb4⟩
  have hA4 := (hA3.alloc _).later hb4
  have hB4 := (Blk.new w3 30 #[.int .i64 y', .int .i64 m', .int .i64 d']).later hb4
  have hw4 := (hw3.alloc (by first | omega | (simp; omega) | simp) _).trans (hb4.mono (by first | omega | (simp; omega) | simp))
  have s4 := hb4.size
  simp at s4
  have lA4 := hA4.lt
  have lB4 := hB4.lt
  clear kA
  have kA := hA4.cell
  have kB := hB4.cell
  go_wp2_with fail
  refine (lives_any _).mono ?_; rintro e w5 ⟨rfl, hb5⟩
  have hA5 := hA4.later hb5
  have hB5 := hB4.later hb5
  have hw5 := hw4.trans (hb5.mono (by first | omega | (simp; omega) | simp))
  have s5 := hb5.size
  have lA5 := hA5.lt
  have lB5 := hB5.lt
  clear kA kB
  have kA := hA5.cell
  have kB := hB5.cell
  go_wp2_with fail
  refine ((M3.out _).out).mono ?_; rintro e w6 ⟨rfl, hb6⟩
  have hA6 := hA5.later hb6
  have hB6 := hB5.later hb6
  have hw6 := hw5.trans (hb6.mono (by first | omega | (simp; omega) | simp))
  have s6 := hb6.size
  have lA6 := hA6.lt
  have lB6 := hB6.lt
  clear kA kB
  have kA := hA6.cell
  have kB := hB6.cell
  have e1 : K + (k + 1) - 1 = K + k := by omega
  have E1 := Lib.hid e1
  clear e1
  go_wp2_with fail
  first | rw [E1.out] | skip
  refine ((M6.out _).out).mono ?_; rintro e w7 ⟨rfl, hb7⟩
  have hA7 := hA6.later hb7
  have hB7 := hB6.later hb7
  have hw7 := hw6.trans (hb7.mono (by first | omega | (simp; omega) | simp))
  have s7 := hb7.size
  have lA7 := hA7.lt
  have lB7 := hB7.lt
  clear kA kB
  have kA := hA7.cell
  have kB := hB7.cell
  go_wp2_with fail
  refine (Leap_is Y false _ y1 yl.out).mono ?_; rintro e w' ⟨rfl, rfl⟩
  go_wp2_with fail
  go_ret
  exact ⟨rfl, hw7.alloc hw7.size _⟩

set_option maxHeartbeats 4000000 in
theorem walk_noone (y m d n nights K N y' m' d' : Int) (w : World) (M1 : Hid (∀ w, Hid (Calls Try.prog 26 #[.int .i64 n] w fun e w' => e = .returned (D3 y m d) ∧ Below w.heap.size w w'))) (M2 : Hid (∀ w, Hid (Calls Try.prog 48 #[.int .i64 nights, .int .i64 80000] w fun e w' => e = .returned (.int .i64 N) ∧ w = w'))) (M3 : Hid (∀ w, Hid (Calls Try.prog 44 #[D3 y m d] w fun e w' => e = .returned (.int .i64 K) ∧ Below w.heap.size w w'))) (k1 : 0 ≤ K) (k2 : K ≤ 4000000) (n1 : 0 ≤ N) (n2 : N ≤ 80000) (M4 : Hid (∀ w, Hid (Calls Try.prog 46 #[.int .i64 (K + N)] w fun e w' => e = .returned (.tuple #[D3 y' m' d', .bool true]) ∧ Below w.heap.size w w'))) (M5 : Hid (∀ w, Hid (Calls Try.prog 58 #[D3 y m d, .int .i64 N] w fun e w' => e = .returned (.tuple #[.int .i64 (-1), .int .i64 0]) ∧ Below w.heap.size w w'))) (y1 : 1 ≤ y) (y2 : y ≤ 9999) (no : Hid (∀ q : Int, 100 ≤ q → q ≤ 9999 → q % 100 = 0 → Cal.lp q = false → K ≤ Cal.num q 2 28 → K + N ≤ Cal.num q 2 28)) :
    Calls Try.prog 20 #[.int .i64 n, .int .i64 nights] w fun e w' => e = .returned (.bool true) ∧ Below w.heap.size w w' := by
  go_enter Try.func20, Try.ntmps20
  have hw0 : Below w.heap.size w w := Below.refl _ _
  go_wp2_with fail
  refine ((M1.out _).out).mono ?_; rintro e w1 ⟨rfl, hb1⟩
  have hw1 := hw0.trans (hb1.mono (by first | omega | (simp; omega) | simp))
  have s1 := hb1.size
  go_wp2_with fail
  refine ((M2.out _).out).mono ?_; rintro e w' ⟨rfl, rfl⟩
  go_wp2_with fail
  refine ((M3.out _).out).mono ?_; rintro e w2 ⟨rfl, hb2⟩
  have hA2 := (Blk.new w1 30 #[.int .i64 y, .int .i64 m, .int .i64 d]).later hb2
  have hw2 := (hw1.alloc (by first | omega | (simp; omega) | simp) _).trans (hb2.mono (by first | omega | (simp; omega) | simp))
  have s2 := hb2.size
  simp at s2
  have lA2 := hA2.lt
  have kA := hA2.cell
  go_wp2_with fail
  refine ((M4.out _).out).mono ?_; rintro e w3 ⟨rfl, hb3⟩
  have hA3 := hA2.later hb3
  have hw3 := hw2.trans (hb3.mono (by first | omega | (simp; omega) | simp))
  have s3 := hb3.size
  have lA3 := hA3.lt
  clear kA
  have kA := hA3.cell
  go_wp2_with fail
  refine ((M5.out _).out).mono ?_; rintro e w4 ⟨rfl, hb4⟩
  have hA4 := (hA3.alloc _).later hb4
  have hB4 := (Blk.new w3 30 #[.int .i64 y', .int .i64 m', .int .i64 d']).later hb4
  have hw4 := (hw3.alloc (by first | omega | (simp; omega) | simp) _).trans (hb4.mono (by first | omega | (simp; omega) | simp))
  have s4 := hb4.size
  simp at s4
  have lA4 := hA4.lt
  have lB4 := hB4.lt
  clear kA
  have kA := hA4.cell
  have kB := hB4.cell
  go_wp2_with fail
  refine (lives_any _).mono ?_; rintro e w5 ⟨rfl, hb5⟩
  have hA5 := hA4.later hb5
  have hB5 := hB4.later hb5
  have hw5 := hw4.trans (hb5.mono (by first | omega | (simp; omega) | simp))
  have s5 := hb5.size
  have lA5 := hA5.lt
  have lB5 := hB5.lt
  clear kA kB
  have kA := hA5.cell
  have kB := hB5.cell
  have hmx : y / 100 * 100 < 100 ∨ y / 100 * 100 = 100 ∨ 100 < y / 100 * 100 := by omega
  have hle : y / 100 * 100 ≤ 9999 := by omega
  rcases hmx with hmx | hmx | hmx
  all_goals
    go_wp2_with fail
    go_loopw [10] (fun i wr => ∃ q : Int, 100 ≤ q ∧ q ≤ 10098 ∧ Hid (q % 100 = 0) ∧ i = .int .i64 q ∧ Blk wr w1.heap.size 30 #[.int .i64 y, .int .i64 m, .int .i64 d] ∧ Below w.heap.size w wr) (fun i _ => (10099 - intOf i).toNat)
    case atStart => exact ⟨_, by omega, by omega, (by show _ % _ = _; omega), rfl, hA5, hw5⟩
    case round =>
      clear hA5 hw5 hle hmx kA
      obtain ⟨q, q1, q2, q3, rfl, hA, hbr⟩ := hrel
      have zA := hA.lt
      have kA := hA.cell
      by_cases hq : q ≤ 9999
      · have hok := ok_28 q1 hq
        have M6 := Lib.hid fun w => Lib.hid (rNumber_any q 2 28 w hok)
        have nb := Cal.num_bd hok
        have nb1 := nb.1
        have nb2 := nb.2
        have hno : Cal.lp q = true ∨ (Cal.lp q = false ∧ Cal.num q 2 28 < K) ∨ (Cal.lp q = false ∧ K ≤ Cal.num q 2 28 ∧ K + N ≤ Cal.num q 2 28) := by
          cases hl : Cal.lp q with
          | true => exact .inl rfl
          | false =>
            right
            rcases Int.lt_or_le (Cal.num q 2 28) K with h | h
            · exact .inl ⟨rfl, h⟩
            · exact .inr ⟨rfl, h, no.out q q1 hq q3.out hl h⟩
        clear hok nb
        generalize Cal.num q 2 28 = T at *
        have tail : ∀ W2 : World, Blk W2 w1.heap.size 30 #[.int .i64 y, .int .i64 m, .int .i64 d] → True := fun _ _ => trivial
        clear tail
        rcases hno with hl | ⟨hl, h1⟩ | ⟨hl, h1, h2⟩
        · have HL := Lib.hid hl
          clear hl
          go_wp2_with fail
          refine (M6.out _).out.mono ?_; rintro e w7 ⟨rfl, hb7⟩
          have hA7 := hA.later hb7
          go_wp2_with fail
          refine (Leap_is q true _ (by omega) HL.out).mono ?_; rintro e w' ⟨rfl, rfl⟩
          go_wp2_with fail
          go_roundw
          case rel => exact ⟨q + 100, by omega, (by have := q3.out; omega), mod_step q3, by go_num, hA7, hbr.trans (hb7.mono hbr.size)⟩
          case measure => simp [intOf]; omega
        · have HL := Lib.hid hl
          clear hl
          go_wp2_with fail
          refine (M6.out _).out.mono ?_; rintro e w7 ⟨rfl, hb7⟩
          have hA7 := hA.later hb7
          have s7 := hbr.trans (hb7.mono hbr.size)
          clear kA
          have kA := hA7.cell
          go_wp2_with fail
          refine (Leap_is q false _ (by omega) HL.out).mono ?_; rintro e w' ⟨rfl, rfl⟩
          go_wp2_with fail
          refine (M3.out _).out.mono ?_; rintro e w8 ⟨rfl, hb8⟩
          have hA8 := hA7.later hb8
          clear kA
          go_wp2_with fail
          go_roundw
          case rel => exact ⟨q + 100, by omega, (by have := q3.out; omega), mod_step q3, by go_num, hA8, s7.trans (hb8.mono s7.size)⟩
          case measure => simp [intOf]; omega
        · have HL := Lib.hid hl
          clear hl
          go_wp2_with fail
          refine (M6.out _).out.mono ?_; rintro e w7 ⟨rfl, hb7⟩
          have hA7 := hA.later hb7
          have s7 := hbr.trans (hb7.mono hbr.size)
          clear kA
          have kA := hA7.cell
          go_wp2_with fail
          refine (Leap_is q false _ (by omega) HL.out).mono ?_; rintro e w' ⟨rfl, rfl⟩
          go_wp2_with fail
          refine (M3.out _).out.mono ?_; rintro e w8 ⟨rfl, hb8⟩
          have hA8 := hA7.later hb8
          have s8 := s7.trans (hb8.mono s7.size)
          clear kA
          have kA := hA8.cell
          go_wp2_with fail
          refine (M3.out _).out.mono ?_; rintro e w9 ⟨rfl, hb9⟩
          have hA9 := hA8.later hb9
          clear kA
          go_wp2_with fail
          go_roundw
          case rel => exact ⟨q + 100, by omega, (by have := q3.out; omega), mod_step q3, by go_num, hA9, s8.trans (hb9.mono s8.size)⟩
          case measure => simp [intOf]; omega
      · go_wp2_with fail
        go_ret
        exact ⟨rfl, hbr⟩

theorem walk (n nights : Int) (w : World) :
    Calls Try.prog 20 #[.int .i64 n, .int .i64 nights] w fun e w' => e = .returned (.bool true) ∧ Below w.heap.size w w' := by
  obtain ⟨y, m, d, hd, hn⟩ := Cal.exists_date (n % 3651694) (by omega) (by omega)
  have M1 := Lib.hid fun w => Lib.hid (some_any n y m d w hd hn)
  have M2 := Lib.hid fun w => Lib.hid (fold_any nights 80000 w (by omega) (by omega))
  have M3 := Lib.hid fun w => Lib.hid (rNumber_any y m d w hd)
  have hb := Cal.num_bd hd
  have b1 : 0 ≤ nights % 80000 := by omega
  have b2 : nights % 80000 < 80000 := by omega
  generalize nights % 80000 = N at *
  by_cases h2 : Cal.num y m d + N ≤ 3652058
  · obtain ⟨c, rfl⟩ : ∃ c : Nat, N = (c : Int) := ⟨N.toNat, by omega⟩
    have hk := Cal.days_ok (x := (y, m, d)) hd c h2
    have e : Cal.num y m d + c = Cal.num (Cal.days c (y, m, d)).1 (Cal.days c (y, m, d)).2.1 (Cal.days c (y, m, d)).2.2 := hk.2.symm
    have M4 := Lib.hid fun w => Lib.hid (rDate_yes _ _ _ w hk.1)
    rw [← e] at M4
    have M5 := Lib.hid fun w => Lib.hid (Wrong_yes y m d c w hd (by omega) h2)
    rcases Fc.wrong_is hd c h2 with ⟨hr, hno⟩ | ⟨k, hkc, hr, hcr⟩
    · rw [hr] at M5
      refine walk_noone y m d n nights (Cal.num y m d) c _ _ _ w M1 M2 M3 hb.1 (by omega) (by omega) (by omega) M4 M5 hd.1 hd.2.1 (Lib.hid fun q q1 q2 q3 q4 h3 => ?_)
      rcases Int.lt_or_le (Cal.num q 2 28) (Cal.num y m d + c) with h4 | h4
      · exfalso
        obtain ⟨j, hj⟩ : ∃ j : Nat, Cal.num q 2 28 = Cal.num y m d + j := ⟨(Cal.num q 2 28 - Cal.num y m d).toNat, by omega⟩
        have hjk := Cal.days_ok (x := (y, m, d)) hd j (by show Cal.num y m d + j ≤ _; omega)
        have hi := Cal.num_inj hjk.1 (ok_28 q1 q2) (by rw [hj]; exact hjk.2)
        have hc := hno j (by omega)
        unfold Cal.crit at hc
        rw [hi.1, hi.2.1, hi.2.2, q4] at hc
        simp at hc
        omega
      · exact h4
    · rw [hr] at M5
      have hjk := Cal.days_ok (x := (y, m, d)) hd k (by show Cal.num y m d + k ≤ _; omega)
      have hc := hcr
      unfold Cal.crit at hc
      simp at hc
      obtain ⟨⟨c1, c2, c3⟩, c4⟩ := hc
      have M6 := Lib.hid fun w => Lib.hid (rDate_yes _ _ _ w hjk.1)
      have e2 : Cal.num (Cal.days k (y, m, d)).1 (Cal.days k (y, m, d)).2.1 (Cal.days k (y, m, d)).2.2 = Cal.num y m d + k := hjk.2
      rw [e2, c1, c2] at M6
      exact walk_some y m d n nights (Cal.num y m d) c _ _ _ k (Cal.days k (y, m, d)).1 w M1 M2 M3 hb.1 (by omega) (by omega) (by omega) M4 M5 M6 (by omega) (by omega) (by simp; omega) (by simp; omega) (by have := hjk.1.1; omega) (by simpa using c3) (Lib.hid c4)
  · exact walk_over y m d n nights (Cal.num y m d) N w M1 M2 M3 hb.1 (by omega) b1 (by omega) (Lib.hid fun w => Lib.hid (rDate_no _ w (by omega)))

set_option maxRecDepth 100000 in
theorem lifted (os : Os) (started : os.Started) (H : Type) (enc : TypeId × Value → H) :
    ReturnsInHanded {} Try.checked os 20 .any (Rows.dialFirstSpec.pre6 enc Try.prog Try.f20 Rows.dialFirstRow.domain false) (Rows.dialFirstSpec.post enc Try.prog Try.f20 false true false false) := by
  refine returnsInHanded_of_change (C := Try.checked) Try.own started (by kernel_rfl) Try.func20
    (ChangeSpec.witness6 (enc := enc) (C := Try.checked) false ⟨#[], #[.int .i64 0, .int .i64 0], []⟩ 8 (by kernel_rfl) (by kernel_rfl) (by kernel_rfl) (by kernel_rfl)) ?_
  intro W base args ds gs before hval0 hW hcnd _
  have hval : ∀ (j : Nat) t v, Try.f20.params[j]? = some t → args[j]? = some v → Value.okWide Try.prog W .any base t v := hval0
  have hW' := hW
  obtain ⟨p, q, hA0, hV, rfl, hfz, hnd⟩ := hW
  have hA : DataW.TrodAll enc Try.prog W 0 (fun _ => true) true Try.f20.params.toList args.toList ds p := hA0
  rw [Try.params20] at hA hval
  obtain ⟨v0, vs0, d0, ds0, p0, q0, hargs, rfl, rfl, h0, r0⟩ := trodAll_cons hA
  obtain ⟨v1, vs1, d1, ds1, p1, q1, rfl, rfl, rfl, h1, r1⟩ := trodAll_cons r0
  obtain ⟨rfl, rfl, rfl⟩ := trodAll_nil r1
  obtain rfl : args = #[v0, v1] := by cases args; simp_all
  obtain ⟨rfl, rfl⟩ := trodVars_none hV
  obtain ⟨a0, rfl, rfl, rfl, w0⟩ := open_int Try.underlying3 (hval 0 3 v0 rfl rfl) h0
  obtain ⟨a1, rfl, rfl, rfl, w1⟩ := open_int Try.underlying3 (hval 1 3 v1 rfl rfl) h1
  refine (walk a0 a1 W).mono fun e W' ⟨he, hb⟩ => ?_
  exact ⟨_, he, law_post rfl (by kernel_rfl) (by kernel_rfl) hW' rfl rfl rfl hb⟩

set_option maxRecDepth 100000 in
theorem facts : joinedFacts Try.prog 20 Try.f20 Rows.dialFirstSpec Rows.dialFirstRow = true := by
  unfold joinedFacts
  repeat' (with_reducible refine and_t ?_ ?_)
  all_goals first
    | with_reducible exact Try.enters
    | (rw [Try.finals]; as_aux_lemma => kernel_rfl)
    | (rw [Try.made]; as_aux_lemma => kernel_rfl)
    | (as_aux_lemma => kernel_rfl)

theorem proved : Rows.DialFirstSaid :=
  OpenClaim.holds_of_wide 20 Try.f20 rfl rfl rfl rfl rfl rfl rfl ⟨rfl, rfl, rfl, rfl, rfl⟩ rfl rfl rfl rfl rfl (by as_aux_lemma => kernel_rfl) Try.func20 facts
    (of_decide_eq_true (by as_aux_lemma => kernel_rfl)) (by unfold Func.isWrapper; rw [if_neg (of_decide_eq_false (by kernel_rfl))]; exact ⟨rfl, rfl⟩)
    (fun os started H enc _ => lifted os started H enc)
#print axioms proved
end Go.Proofs.Ytjlnkghjiaglmaa.dialFirst
