/-
  Two parts of a row exchanged, and two neighbouring parts of a row turned round.
  Conditions: the row is the whole of a block.
-/
import Derived.Test.YtnfcigbiebbjdaaProg
import Derived.Test.YtnfcigbiebbjdaaInts
import Derived.BigRegion
import Derived.WalkKit
namespace Go.Proofs.Ytnfcigbiebbjdaa
open Go.RowKit

theorem two_at' (A B C : List Int) (x y : Int) : (A ++ (x :: (B ++ y :: C)))[A.length]? = some x ∧ (A ++ (x :: (B ++ y :: C)))[A.length + 1 + B.length]? = some y := by
  constructor
  · simp
  · rw [List.getElem?_append_right (by omega), show A.length + 1 + B.length - A.length = B.length + 1 by omega, List.getElem?_cons_succ, List.getElem?_append_right (Nat.le_refl _), Nat.sub_self]
    rfl
theorem two_swap' (A B C : List Int) (x y : Int) : ((A ++ (x :: (B ++ y :: C))).set A.length y).set (A.length + 1 + B.length) x = A ++ (y :: (B ++ x :: C)) := by
  rw [List.set_append_right _ _ (Nat.le_refl _), Nat.sub_self, List.set_cons_zero, List.set_append_right _ _ (by omega), show A.length + 1 + B.length - A.length = B.length + 1 by omega, List.set_cons_succ,
    List.set_append_right _ _ (Nat.le_refl _), Nat.sub_self, List.set_cons_zero]
/-- The row in the middle of an exchange. -/
def exch (P X M Y Q : List Int) (i : Nat) : List Int := P ++ (Y.take i ++ X.drop i) ++ M ++ (X.take i ++ Y.drop i) ++ Q
theorem exch_split {P X M Y Q : List Int} {i : Nat} {x y : Int} (hx : X[i]? = some x) (hy : Y[i]? = some y) :
    exch P X M Y Q i = (P ++ Y.take i) ++ (x :: ((X.drop (i + 1) ++ M ++ X.take i) ++ y :: (Y.drop (i + 1) ++ Q))) ∧
    exch P X M Y Q (i + 1) = (P ++ Y.take i) ++ (y :: ((X.drop (i + 1) ++ M ++ X.take i) ++ x :: (Y.drop (i + 1) ++ Q))) := by
  have h1 := (List.getElem?_eq_some_iff.1 hx)
  have h2 := (List.getElem?_eq_some_iff.1 hy)
  obtain ⟨l1, e1⟩ := h1
  obtain ⟨l2, e2⟩ := h2
  unfold exch
  constructor
  · rw [List.drop_eq_getElem_cons l1, List.drop_eq_getElem_cons l2, e1, e2]
    simp
  · rw [List.take_add_one, List.take_add_one, hx, hy]
    simp

set_option maxHeartbeats 2000000 in
theorem swapRange_any {w0 : World} {R : Nat} (P X M Y Q : List Int) (cap : Nat) (v : Value) (w : World) (hXY : X.length = Y.length) (hB : RowB w R (P ++ X ++ M ++ Y ++ Q)) (hw : w0.grownBy w (some R)) (a b n N : Nat)
    (ha : a = P.length) (hb : b = P.length + X.length + M.length) (hn : n = X.length) (hN : N = (P ++ X ++ M ++ Y ++ Q).length) (hl : N ≤ 1000) :
    Calls Try.prog 109 #[.slice (some ⟨R, 0, none⟩) N cap, .int .i64 a, .int .i64 b, .int .i64 n, v] w fun e w' =>
      e = .returned (.tuple #[]) ∧ RowB w' R (P ++ Y ++ M ++ X ++ Q) ∧ w0.grownBy w' (some R) := by
  have HN := Lib.hid hN
  have HA := Lib.hid ha
  have HBb := Lib.hid hb
  have Hn := Lib.hid hn
  have hlen := hN
  simp only [List.length_append] at hlen
  have hab : a ≤ 1000 ∧ b ≤ 1000 ∧ n ≤ 1000 := by omega
  obtain ⟨ha1, hb1, hn1⟩ := hab
  have HL := Lib.hid hlen
  clear hN ha hb hn hlen
  go_enter Try.func109, Try.ntmps109
  go_wp2_with fail
  go_loopw [10] (fun u wr => ∃ i : Nat, i ≤ n ∧ u = .int .i64 i ∧ RowB wr R (exch P X M Y Q i) ∧ w0.grownBy wr (some R)) (fun u _ => n - (intOf u).toNat)
  case atStart => exact ⟨0, Nat.zero_le _, rfl, by unfold exch; simpa using hB, hw⟩
  case round =>
    clear hB hw
    obtain ⟨i, hi, rfl, hB, hw⟩ := hrel
    by_cases hlt : i < n
    · have hbt : decide ((i : Int) < (n : Int)) = true := by simp; omega
      obtain ⟨x, hx⟩ : ∃ x, X[i]? = some x := ⟨_, List.getElem?_eq_getElem (by have := Hn.out; omega)⟩
      obtain ⟨y, hy⟩ : ∃ y, Y[i]? = some y := ⟨_, List.getElem?_eq_getElem (by have := Hn.out; omega)⟩
      obtain ⟨s1, s2⟩ := exch_split (P := P) (M := M) (Q := Q) hx hy
      rw [s1] at hB
      obtain ⟨p, hp⟩ : ∃ p, p = a + i := ⟨_, rfl⟩
      obtain ⟨r, hr⟩ : ∃ r, r = b + i := ⟨_, rfl⟩
      have e1 : p = (P ++ Y.take i).length := by rw [List.length_append, List.length_take, hp, HA.out]; have := Hn.out; omega
      have e2 : r = (P ++ Y.take i).length + 1 + (X.drop (i + 1) ++ M ++ X.take i).length := by
        rw [hr, ← e1, hp, HBb.out]; simp only [List.length_append, List.length_drop, List.length_take]; have := Hn.out; have := HA.out; omega
      have cx : wr.cell? ⟨R, p, none⟩ = some (.int .i64 x) := hB.at_ (by rw [e1]; exact (two_at' _ _ _ _ _).1)
      have cy : wr.cell? ⟨R, r, none⟩ = some (.int .i64 y) := hB.at_ (by rw [e2]; exact (two_at' _ _ _ _ _).2)
      have fx : wr.frozen? ⟨R, p, none⟩ = false := hB.frozen _
      have fy : wr.frozen? ⟨R, r, none⟩ = false := hB.frozen _
      have hne : p ≠ r := by omega
      have hpN : p < N ∧ r < N := by
        have := HL.out; have := Hn.out; have := HA.out; have := HBb.out
        omega
      obtain ⟨hpN, hrN⟩ := hpN
      have t1 : ((a : Int) + (i : Int)).toNat = p := by omega
      have t2 : ((b : Int) + (i : Int)).toNat = r := by omega
      have j1 : (a : Int) + (i : Int) < (N : Int) := by omega
      have j2 : (b : Int) + (i : Int) < (N : Int) := by omega
      have k1 : (0 : Int) ≤ (a : Int) + (i : Int) := by omega
      have k2 : (0 : Int) ≤ (b : Int) + (i : Int) := by omega
      have HS2 := Lib.hid s2
      have E1 := Lib.hid e1
      have E2 := Lib.hid e2
      clear s1 s2 e1 e2 hp hr hx hy
      go_wp2_with fail
      go_big_region
      all_goals go_wp2_with fail
      go_roundw
      case rel =>
        refine ⟨i + 1, by omega, by go_num, ?_, ?_⟩
        · have h1 := (hB.set_ p y).set_ r x
          rw [HS2.out]
          have h2 := two_swap' (P ++ Y.take i) (X.drop (i + 1) ++ M ++ X.take i) (Y.drop (i + 1) ++ Q) x y
          rw [← E2.out, ← E1.out] at h2
          rw [h2] at h1
          exact h1
        · exact only_setCell (only_setCell (only_drew hw) (.inl rfl) _) (.inl rfl) _
      case measure => simp [intOf]; omega
    · have hbf : decide ((i : Int) < (n : Int)) = false := by simp; omega
      have hin : i = n := by omega
      subst hin
      have e : exch P X M Y Q i = P ++ Y ++ M ++ X ++ Q := by
        have := Hn.out
        unfold exch
        rw [List.take_of_length_le (by omega), List.take_of_length_le (by omega), List.drop_of_length_le (by omega), List.drop_of_length_le (by omega)]
        simp
      rw [e] at hB
      clear e
      go_wp2_with fail
      go_end0
      exact ⟨rfl, hB, hw⟩
end Go.Proofs.Ytnfcigbiebbjdaa
