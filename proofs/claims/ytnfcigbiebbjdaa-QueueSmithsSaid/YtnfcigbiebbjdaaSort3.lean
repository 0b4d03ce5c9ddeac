/-
  Two neighbouring parts of a row turned round.
  Conditions: the row is the whole of a block; no part is empty.
-/
import Derived.Test.YtnfcigbiebbjdaaSort2
namespace Go.Proofs.Ytnfcigbiebbjdaa
open Go.RowKit

set_option maxHeartbeats 2000000 in
theorem rotate_any {w0 : World} {R : Nat} (P A B Q : List Int) (cap : Nat) (v : Value) (w : World) (hB : RowB w R (P ++ A ++ B ++ Q)) (hw : w0.grownBy w (some R)) (a m b N : Nat)
    (ha : a = P.length) (hm : m = P.length + A.length) (hb : b = P.length + A.length + B.length) (hN : N = (P ++ A ++ B ++ Q).length) (hl : N ≤ 1000) (hA0 : 0 < A.length) (hB0 : 0 < B.length) :
    Calls Try.prog 97 #[.slice (some ⟨R, 0, none⟩) N cap, .int .i64 a, .int .i64 m, .int .i64 b, v] w fun e w' =>
      e = .returned (.tuple #[]) ∧ RowB w' R (P ++ B ++ A ++ Q) ∧ w0.grownBy w' (some R) := by
  have hlen := hN
  simp only [List.length_append] at hlen
  have hab : a ≤ 1000 ∧ m ≤ 1000 ∧ b ≤ 1000 := by omega
  obtain ⟨ha1, hm1, hb1⟩ := hab
  have q1 : (m : Int) - (a : Int) = (A.length : Nat) := by omega
  have q2 : (b : Int) - (m : Int) = (B.length : Nat) := by omega
  have HM := Lib.hid hm
  have HL := Lib.hid hlen
  clear hN ha hb hm hlen
  obtain ⟨i0, hi0⟩ : ∃ i0, i0 = A.length := ⟨_, rfl⟩
  obtain ⟨j0, hj0⟩ : ∃ j0, j0 = B.length := ⟨_, rfl⟩
  rw [← hi0] at q1
  rw [← hj0] at q2
  have HI0 := Lib.hid hi0
  have HJ0 := Lib.hid hj0
  have hij : i0 ≤ 1000 ∧ j0 ≤ 1000 := by have := HL.out; omega
  obtain ⟨hi1, hj1⟩ := hij
  clear hi0 hj0
  go_enter Try.func97, Try.ntmps97
  go_wp2_with fail
  go_loopw [10, 11] (fun u t wr => ∃ (i j : Nat) (U A' B' V : List Int), u = .int .i64 i ∧ t = .int .i64 j ∧ 0 < i ∧ 0 < j ∧ i ≤ m ∧ m + j ≤ N ∧ Hid (A'.length = i ∧ B'.length = j ∧ P.length + U.length + i = m ∧ U ++ B' ++ A' ++ V = B ++ A ∧ N = (P ++ U ++ A' ++ B' ++ (V ++ Q)).length) ∧
      RowB wr R (P ++ U ++ A' ++ B' ++ (V ++ Q)) ∧ w0.grownBy wr (some R)) (fun u t _ => (intOf u).toNat + (intOf t).toNat)
  case atStart =>
    have h1 := HI0.out
    have h2 := HJ0.out
    have h3 := HM.out
    have h4 := HL.out
    refine ⟨i0, j0, [], A, B, [], rfl, rfl, by omega, by omega, by omega, by omega, ⟨h1.symm, h2.symm, by simp; omega, by simp, ?_⟩, by simpa using hB, hw⟩
    simp only [List.length_append, List.length_nil]
    omega
  case round =>
    clear hB hw
    obtain ⟨i, j, U, A', B', V, rfl, rfl, hi, hj, him, hjN, hH, hB, hw⟩ := hrel
    by_cases hne : i = j
    · subst hne
      have hbf : ((i : Int) != (i : Int)) = false := by simp
      obtain ⟨g1, g2, g3, g4, g5⟩ := hH.out
      have q3 : (m : Int) - (i : Int) = (m - i : Nat) := by omega
      have M := fun W (hB : RowB W R (P ++ U ++ A' ++ [] ++ B' ++ (V ++ Q))) hW => Lib.hid (swapRange_any (w0 := w0) (P ++ U) A' [] B' (V ++ Q) cap v W (by omega) hB hW (m - i) m i N (by simp; omega) (by simp; omega) g1.symm (by rw [g5]; simp) hl)
      have M2 := Lib.hid (M wr (by simpa using hB) hw)
      clear M g1 g2 g3 g4 g5
      obtain ⟨k, hk⟩ : ∃ k, k = m - i := ⟨_, rfl⟩
      rw [← hk] at M2 q3
      have HK := Lib.hid hk
      clear hk
      go_wp2_with fail
      refine M2.out.out.mono ?_
      rintro e w2 ⟨rfl, hB2, hw2⟩
      go_wp2_with fail
      go_end0
      refine ⟨rfl, ?_, hw2⟩
      have g4 := hH.out.2.2.2.1
      have e : P ++ U ++ B' ++ [] ++ A' ++ (V ++ Q) = P ++ (U ++ B' ++ A' ++ V) ++ Q := by simp
      rw [e, g4] at hB2
      simpa using hB2
    · have hbt : ((i : Int) != (j : Int)) = true := by simp; omega
      by_cases hgt : j < i
      · have hbg : decide ((i : Int) > (j : Int)) = true := by simp; omega
        have hbg2 : (j : Int) < (i : Int) := by omega
        obtain ⟨g1, g2, g3, g4, g5⟩ := hH.out
        have q3 : (m : Int) - (i : Int) = (m - i : Nat) := by omega
        have q4 : (i : Int) - (j : Int) = (i - j : Nat) := by omega
        have eA : A' = A'.take j ++ A'.drop j := (List.take_append_drop j A').symm
        have l1 : (A'.take j).length = j := by rw [List.length_take]; omega
        have l2 : (A'.drop j).length = i - j := by rw [List.length_drop]; omega
        have G4 := Lib.hid g4
        clear g4
        generalize A'.take j = A1 at *
        generalize A'.drop j = A2 at *
        subst eA
        have hB' : RowB wr R (P ++ U ++ A1 ++ A2 ++ B' ++ (V ++ Q)) := by simpa using hB
        have M2 := Lib.hid (swapRange_any (w0 := w0) (P ++ U) A1 A2 B' (V ++ Q) cap v wr (by omega) hB' hw (m - i) m j N (by simp; omega) (by simp; omega) l1.symm (by rw [g5]; simp) hl)
        obtain ⟨k, hk⟩ : ∃ k, k = m - i := ⟨_, rfl⟩
        obtain ⟨d, hd⟩ : ∃ d, d = i - j := ⟨_, rfl⟩
        rw [← hk] at M2 q3
        rw [← hd] at q4 l2
        have hk1 : k ≤ 1000 := by omega
        have hd1 : 0 < d ∧ d ≤ m := by omega
        obtain ⟨hd0, hd1⟩ := hd1
        have HH : Hid (A2.length = d ∧ A1.length = j ∧ P.length + (U ++ B').length + d = m ∧ (U ++ B') ++ A1 ++ A2 ++ V = B ++ A ∧ N = (P ++ (U ++ B') ++ A2 ++ A1 ++ (V ++ Q)).length) := by
          refine ⟨l2, l1, by rw [List.length_append]; omega, by rw [← G4.out]; simp, ?_⟩
          simp only [List.length_append] at g5 ⊢
          omega
        clear g1 g2 g3 g5 hk l1 l2 hB hB' hH G4
        have HD := Lib.hid hd
        clear hd
        go_wp2_with fail
        refine M2.out.mono ?_
        rintro e w2 ⟨rfl, hB2, hw2⟩
        go_wp2_with fail
        go_roundw
        case rel => exact ⟨d, j, U ++ B', A2, A1, V, rfl, rfl, hd0, hj, hd1, hjN, HH, by simpa using hB2, hw2⟩
        case measure => have := HD.out; simp [intOf]; omega
      · have hbg : decide ((i : Int) > (j : Int)) = false := by simp; omega
        have hbg2 : ¬ (j : Int) < (i : Int) := by omega
        obtain ⟨g1, g2, g3, g4, g5⟩ := hH.out
        have q3 : (m : Int) - (i : Int) = (m - i : Nat) := by omega
        have q4 : (j : Int) - (i : Int) = (j - i : Nat) := by omega
        have q5 : (m : Int) + (j : Int) - (i : Int) = (m + j - i : Nat) := by omega
        have eA : B' = B'.take (j - i) ++ B'.drop (j - i) := (List.take_append_drop (j - i) B').symm
        have l1 : (B'.take (j - i)).length = j - i := by rw [List.length_take]; omega
        have l2 : (B'.drop (j - i)).length = i := by rw [List.length_drop]; omega
        have G4 := Lib.hid g4
        clear g4
        generalize B'.take (j - i) = B1 at *
        generalize B'.drop (j - i) = B2 at *
        subst eA
        have hB' : RowB wr R (P ++ U ++ A' ++ B1 ++ B2 ++ (V ++ Q)) := by simpa using hB
        have M2 := Lib.hid (swapRange_any (w0 := w0) (P ++ U) A' B1 B2 (V ++ Q) cap v wr (by omega) hB' hw (m - i) (m + j - i) i N (by simp; omega) (by simp; omega) g1.symm (by rw [g5]; simp) hl)
        obtain ⟨k, hk⟩ : ∃ k, k = m - i := ⟨_, rfl⟩
        obtain ⟨d, hd⟩ : ∃ d, d = j - i := ⟨_, rfl⟩
        obtain ⟨r, hr⟩ : ∃ r, r = m + j - i := ⟨_, rfl⟩
        rw [← hk, ← hr] at M2
        rw [← hk] at q3
        rw [← hd] at q4 l1
        rw [← hr] at q5
        have hk1 : k ≤ 1000 := by omega
        have hr1 : r ≤ 1000 := by omega
        have hd1 : 0 < d ∧ m + d ≤ N := by omega
        obtain ⟨hd0, hd1⟩ := hd1
        have HH : Hid (B2.length = i ∧ B1.length = d ∧ P.length + U.length + i = m ∧ U ++ B1 ++ B2 ++ (A' ++ V) = B ++ A ∧ N = (P ++ U ++ B2 ++ B1 ++ ((A' ++ V) ++ Q)).length) := by
          refine ⟨l2, l1, g3, by rw [← G4.out]; simp, ?_⟩
          simp only [List.length_append] at g5 ⊢
          omega
        clear g1 g2 g3 g5 hk hr l1 l2 hB hB' hH G4
        have HD := Lib.hid hd
        clear hd
        go_wp2_with fail
        refine M2.out.mono ?_
        rintro e w2 ⟨rfl, hB2, hw2⟩
        go_wp2_with fail
        go_roundw
        case rel => exact ⟨i, d, U, B2, B1, A' ++ V, rfl, rfl, hi, hd0, him, hd1, HH, by simpa using hB2, hw2⟩
        case measure => have := HD.out; simp [intOf]; omega
end Go.Proofs.Ytnfcigbiebbjdaa
