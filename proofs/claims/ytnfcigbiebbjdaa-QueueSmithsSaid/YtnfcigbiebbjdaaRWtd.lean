/-
  The document's weighted sum of an order.
  Conditions: the jobs are tame, the order's numbers are theirs; the slices start at the heads of blocks.
-/
import Derived.Test.YtnfcigbiebbjdaaValid
namespace Go.Proofs.Ytnfcigbiebbjdaa
open Go.RowKit

set_option maxHeartbeats 1000000 in
theorem rWeighted_any (A O : Option Addr) (n c m e : Nat) (l : List Jb) (o : List Int) (W : World) (rA : JobsH W A n l) (rO : RowH W O m o) (ht : ∀ (k : Nat) (x : Jb), l[k]? = some x → Tame x) (ho : ∀ x ∈ o, 0 ≤ x ∧ x < (n : Int)) (hm : m ≤ 64) :
    Calls Try.prog 21 #[.slice A n c, .slice O m e] W fun e w' => e = .returned (.int .i64 (wsum l 0 o)) ∧ W = w' := by
  have HT := Lib.hid ht
  have HO := Lib.hid ho
  have HL0 : Hid (wsum l 0 o = wsumA l 0 0 (o.drop 0)) := by show _ = _; rw [wsumA_eq, List.drop_zero]; omega
  clear ht ho
  go_enter Try.func21, Try.ntmps21
  go_wp2_with fail
  go_loopw [5, 6, 7] (fun a b i wr => ∃ (k : Nat) (t u : Int), k ≤ m ∧ i = .int .i64 k ∧ a = .int .i64 t ∧ b = .int .i64 u ∧ 0 ≤ t ∧ t ≤ 10000 * k ∧ 0 ≤ u ∧ u ≤ 640000000 * k ∧ Hid (wsum l 0 o = wsumA l t u (o.drop k)) ∧ W = wr) (fun _ _ i _ => m - (intOf i).toNat)
  case atStart => exact ⟨0, 0, 0, Nat.zero_le _, rfl, rfl, rfl, Int.le_refl _, by omega, Int.le_refl _, by omega, HL0, rfl⟩
  case round =>
    obtain ⟨k, t, u, hk, rfl, rfl, rfl, t0, t1, u0, u1, hL, rfl⟩ := hrel
    by_cases hlt : k < m
    · obtain ⟨go, rfl, hgo, co⟩ := rO.at_ hlt
      have hol : o[k]? = some (o.getD k 0) := getD_get (by rw [rO.1]; exact hlt)
      have hx := HO.out _ (List.mem_of_getElem? hol)
      have hdr := Lib.hid (drop_step hol)
      clear hol
      generalize o.getD k 0 = x at *
      obtain ⟨x0, x1⟩ := hx
      obtain ⟨i, rfl⟩ := Int.eq_ofNat_of_zero_le x0
      have hi : i < n := by omega
      obtain ⟨g, rfl, hg, hj, c0, _, _, c3, _⟩ := rA.get hi
      have tx := HT.out i _ hj
      have HLs : Hid (wsumA l t u (o.drop k) = wsumA l (t + (jat l i).work) (u + (jat l i).wt * (t + (jat l i).work)) (o.drop (k + 1))) := by
        show _ = _
        rw [hdr.out, Int.mul_comm (jat l i).wt]
        rfl
      clear hj
      obtain ⟨p0, p1, w0, w1⟩ := tx
      generalize (jat l i).work = p at *
      generalize (jat l i).wt = q at *
      have m1 : 0 ≤ q * (t + p) := Int.mul_nonneg w0 (by omega)
      have m2 : q * (t + p) ≤ 1000 * 640000 := Int.mul_le_mul w1 (by omega) (by omega) (by omega)
      have hbt : decide ((k : Int) < (m : Int)) = true := by simp; omega
      have hbt2 : (k : Int) < (m : Int) := by omega
      clear hdr x0 x1
      go_wp2_with fail
      go_roundw
      case rel => exact ⟨k + 1, t + p, u + q * (t + p), by omega, by go_num, rfl, rfl, by omega, by omega, by omega, by omega, hL.out.trans HLs.out, trivial⟩
      case measure => simp [intOf]; omega
    · obtain rfl : k = m := by omega
      have hbt : decide ((k : Int) < (k : Int)) = false := by simp
      have he : o.drop k = [] := List.drop_of_length_le (by rw [rO.1]; exact Nat.le_refl _)
      have HE : Hid (wsum l 0 o = u) := by
        show _ = _
        rw [hL.out, he]
        rfl
      clear he
      go_wp2_with fail
      go_ret
      exact ⟨by rw [HE.out]; rfl, rfl⟩
end Go.Proofs.Ytnfcigbiebbjdaa
