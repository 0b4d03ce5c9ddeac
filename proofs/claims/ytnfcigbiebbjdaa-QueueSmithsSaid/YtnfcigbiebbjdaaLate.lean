/-
  What a job costs that is late; how late an order is, as the program and as the document tell it.
  Conditions: the jobs are calm, the order's numbers are theirs; the slices start at the heads of blocks.
-/
import Derived.Test.YtnfcigbiebbjdaaRWtd
namespace Go.Proofs.Ytnfcigbiebbjdaa
open Go.RowKit

def Calm (j : Jb) : Prop := 1 ≤ j.work ∧ j.work ≤ 10000 ∧ 0 ≤ j.due ∧ j.due ≤ 640000 ∧ 0 ≤ j.wt ∧ j.wt ≤ 1000
theorem validB_calm {l : List Jb} (h : validB l = true) {k : Nat} {j : Jb} (hj : l[k]? = some j) : Calm j := by
  unfold validB at h
  simp only [Bool.and_eq_true] at h
  have := allB_step hj h.2
  unfold jobB at this
  simp only [Bool.and_eq_true, decide_eq_true_eq] at this
  exact ⟨by omega, by omega, by omega, by omega, by omega, by omega⟩
theorem fine_bound {j : Jb} (hj : Calm j) {t : Int} (h1 : t ≤ 640000) : 0 ≤ fineJ j t ∧ fineJ j t ≤ 640000000 := by
  obtain ⟨_, _, d0, d1, w0, w1⟩ := hj
  unfold fineJ
  have m1 : 0 ≤ j.wt * max 0 (t - j.due) := Int.mul_nonneg w0 (by omega)
  have m2 : j.wt * max 0 (t - j.due) ≤ 1000 * 640000 := Int.mul_le_mul w1 (by omega) (by omega) (by omega)
  omega
set_option maxHeartbeats 1000000 in
theorem fine_any (j : Jb) (v : Value) (t : Int) (w : World) (hj : Calm j) (h0 : 0 ≤ t) (h1 : t ≤ 640000) :
    Calls Try.prog 61 #[.agg #[.int .i64 j.work, .int .i64 j.rel, .int .i64 j.due, .int .i64 j.wt, v], .int .i64 t] w fun e w' => e = .returned (.int .i64 (fineJ j t)) ∧ Below w.heap.size w w' := by
  have hb : Below w.heap.size w (w.alloc (.cells #[.int .i64 j.work, .int .i64 j.rel, .int .i64 j.due, .int .i64 j.wt, v] 43)) := (Below.refl _ _).alloc (Nat.le_refl _) _
  have hfb := fine_bound hj h1
  obtain ⟨_, _, d0, d1, w0, w1⟩ := hj
  have HF : Hid (fineJ j t = j.wt * max 0 (t - j.due)) := rfl
  generalize fineJ j t = q at *
  generalize j.due = d at *
  generalize j.wt = x at *
  generalize j.work = y at *
  generalize j.rel = z at *
  rcases Int.lt_trichotomy 0 (t - d) with h | h | h
  · have e : max 0 (t - d) = t - d := by omega
    rw [e] at HF
    have HF2 : Hid (q = x * (t - d)) := HF
    have b1 : 0 ≤ x * (t - d) := by have := HF.out; omega
    have b2 : x * (t - d) ≤ 640000000 := by have := HF.out; omega
    clear e HF
    go_enter Try.func61, Try.ntmps61
    go_wp2
    go_ret
    exact ⟨by rw [HF2.out]; rfl, hb⟩
  · have e : max 0 (t - d) = 0 := by omega
    rw [e, Int.mul_zero] at HF
    have hz : t = d := by omega
    clear e h
    subst hz
    go_enter Try.func61, Try.ntmps61
    go_wp2
    go_ret
    exact ⟨by rw [HF.out]; simp, hb⟩
  · have e : max 0 (t - d) = 0 := by omega
    rw [e, Int.mul_zero] at HF
    clear e
    go_enter Try.func61, Try.ntmps61
    go_wp2
    go_ret
    exact ⟨by rw [HF.out]; simp, hb⟩

set_option maxHeartbeats 2000000 in
theorem late_any (A O : Option Addr) (n c m e : Nat) (l : List Jb) (o : List Int) (W : World) (rA : JobsH W A n l) (rO : RowH W O m o) (ht : ∀ (k : Nat) (x : Jb), l[k]? = some x → Calm x) (ho : ∀ x ∈ o, 0 ≤ x ∧ x < (n : Int)) (hm : m ≤ 64) :
    Calls Try.prog 62 #[.slice A n c, .slice O m e] W fun e w' => e = .returned (.int .i64 (lateF l 0 o)) ∧ Below W.heap.size W w' := by
  have HT := Lib.hid ht
  have HO := Lib.hid ho
  have HL0 : Hid (lateF l 0 o = lateA l 0 0 (o.drop 0)) := by show _ = _; rw [lateA_eq _ _ _ _ (Int.le_refl _), List.drop_zero]; have := lateF_nonneg l 0 o; omega
  clear ht ho
  go_enter Try.func62, Try.ntmps62
  go_wp2_with fail
  go_loopw [5, 6, 11] (fun a b i wr => ∃ (k : Nat) (t u : Int), k ≤ m ∧ i = .int .i64 k ∧ a = .int .i64 t ∧ b = .int .i64 u ∧ 0 ≤ t ∧ t ≤ 10000 * k ∧ 0 ≤ u ∧ u ≤ 640000000 ∧ Hid (lateF l 0 o = lateA l t u (o.drop k)) ∧ Below W.heap.size W wr) (fun _ _ i _ => m - (intOf i).toNat)
  case atStart => exact ⟨0, 0, 0, Nat.zero_le _, rfl, rfl, rfl, Int.le_refl _, by omega, Int.le_refl _, by omega, HL0, Below.refl _ _⟩
  case round =>
    obtain ⟨k, t, u, hk, rfl, rfl, rfl, t0, t1, u0, u1, hL, hb⟩ := hrel
    by_cases hlt : k < m
    · obtain ⟨go, rfl, hgo, co⟩ := (rO.later hb).at_ hlt
      have hol : o[k]? = some (o.getD k 0) := getD_get (by rw [rO.1]; exact hlt)
      have hx := HO.out _ (List.mem_of_getElem? hol)
      have hdr := Lib.hid (drop_step hol)
      clear hol
      generalize o.getD k 0 = x at *
      obtain ⟨x0, x1⟩ := hx
      obtain ⟨i, rfl⟩ := Int.eq_ofNat_of_zero_le x0
      have hi : i < n := by omega
      obtain ⟨g, rfl, hg, hj, c0, c1, c2, c3, B, q, qc, c4, _⟩ := (rA.later hb).get hi
      have tx := HT.out i _ hj
      have hw0 := tx.1
      have hw1 := tx.2.1
      have HLs : Hid (lateA l t u (o.drop k) = lateA l (t + (jat l i).work) (max u (fineJ (jat l i) (t + (jat l i).work))) (o.drop (k + 1))) := by
        show _ = _
        rw [hdr.out]
        rfl
      have M := Lib.hid (fine_any (jat l i) (.slice B q qc) (t + (jat l i).work) wr tx (by omega) (by omega))
      have hfb := fine_bound tx (show t + (jat l i).work ≤ 640000 by omega)
      generalize fineJ (jat l i) (t + (jat l i).work) = f at *
      have hbt : decide ((k : Int) < (m : Int)) = true := by simp; omega
      have hbt2 : (k : Int) < (m : Int) := by omega
      clear hdr x0 x1 tx hj
      generalize jat l i = j at *
      go_wp2_with fail
      refine M.out.mono ?_
      rintro e w2 ⟨rfl, hb2⟩
      have hb3 := hb.trans (hb2.mono hb.size)
      clear M c0 c1 c2 c3 c4 co hb hb2
      rcases Int.lt_trichotomy u f with h | h | h
      · have e : max u f = f := by omega
        rw [e] at HLs
        clear e
        go_wp2_with fail
        go_roundw
        case rel => exact ⟨k + 1, t + j.work, f, by omega, by go_num, rfl, rfl, by omega, by omega, by omega, by omega, hL.out.trans HLs.out, hb3⟩
        case measure => simp [intOf]; omega
      · subst h
        have e : max u u = u := by omega
        rw [e] at HLs
        clear e
        go_wp2_with fail
        go_roundw
        case rel => exact ⟨k + 1, t + j.work, u, by omega, by go_num, rfl, rfl, by omega, by omega, by omega, by omega, hL.out.trans HLs.out, hb3⟩
        case measure => simp [intOf]; omega
      · have e : max u f = u := by omega
        rw [e] at HLs
        clear e
        go_wp2_with fail
        go_roundw
        case rel => exact ⟨k + 1, t + j.work, u, by omega, by go_num, rfl, rfl, by omega, by omega, by omega, by omega, hL.out.trans HLs.out, hb3⟩
        case measure => simp [intOf]; omega
    · obtain rfl : k = m := by omega
      have hbt : decide ((k : Int) < (k : Int)) = false := by simp
      have he : o.drop k = [] := List.drop_of_length_le (by rw [rO.1]; exact Nat.le_refl _)
      have HE : Hid (lateF l 0 o = u) := by
        show _ = _
        rw [hL.out, he]
        rfl
      clear he
      go_wp2_with fail
      go_ret
      exact ⟨by rw [HE.out]; rfl, hb⟩

set_option maxHeartbeats 2000000 in
theorem rLate_any (A O : Option Addr) (n c m e : Nat) (l : List Jb) (o : List Int) (W : World) (rA : JobsH W A n l) (rO : RowH W O m o) (ht : ∀ (k : Nat) (x : Jb), l[k]? = some x → Calm x) (ho : ∀ x ∈ o, 0 ≤ x ∧ x < (n : Int)) (hm : m ≤ 64) :
    Calls Try.prog 31 #[.slice A n c, .slice O m e] W fun e w' => e = .returned (.int .i64 (lateF l 0 o)) ∧ Below W.heap.size W w' := by
  have HT := Lib.hid ht
  have HO := Lib.hid ho
  have HL0 : Hid (lateF l 0 o = lateA l 0 0 (o.drop 0)) := by show _ = _; rw [lateA_eq _ _ _ _ (Int.le_refl _), List.drop_zero]; have := lateF_nonneg l 0 o; omega
  clear ht ho
  go_enter Try.func31, Try.ntmps31
  go_wp2_with fail
  go_loopw [5, 6, 7] (fun a b i wr => ∃ (k : Nat) (t u : Int), k ≤ m ∧ i = .int .i64 k ∧ a = .int .i64 t ∧ b = .int .i64 u ∧ 0 ≤ t ∧ t ≤ 10000 * k ∧ 0 ≤ u ∧ u ≤ 640000000 ∧ Hid (lateF l 0 o = lateA l t u (o.drop k)) ∧ Below W.heap.size W wr) (fun _ _ i _ => m - (intOf i).toNat)
  case atStart => exact ⟨0, 0, 0, Nat.zero_le _, rfl, rfl, rfl, Int.le_refl _, by omega, Int.le_refl _, by omega, HL0, Below.refl _ _⟩
  case round =>
    obtain ⟨k, t, u, hk, rfl, rfl, rfl, t0, t1, u0, u1, hL, hb⟩ := hrel
    by_cases hlt : k < m
    · obtain ⟨go, rfl, hgo, co⟩ := (rO.later hb).at_ hlt
      have hol : o[k]? = some (o.getD k 0) := getD_get (by rw [rO.1]; exact hlt)
      have hx := HO.out _ (List.mem_of_getElem? hol)
      have hdr := Lib.hid (drop_step hol)
      clear hol
      generalize o.getD k 0 = x at *
      obtain ⟨x0, x1⟩ := hx
      obtain ⟨i, rfl⟩ := Int.eq_ofNat_of_zero_le x0
      have hi : i < n := by omega
      obtain ⟨g, rfl, hg, hj, c0, c1, c2, c3, B, q, qc, c4, _⟩ := (rA.later hb).get hi
      have tx := HT.out i _ hj
      have HLs : Hid (lateA l t u (o.drop k) = lateA l (t + (jat l i).work) (max u (fineJ (jat l i) (t + (jat l i).work))) (o.drop (k + 1))) := by
        show _ = _
        rw [hdr.out]
        rfl
      have hw1 := tx.2.1
      have hfb := fine_bound tx (show t + (jat l i).work ≤ 640000 by omega)
      have HFd : Hid (fineJ (jat l i) (t + (jat l i).work) = (jat l i).wt * max 0 (t + (jat l i).work - (jat l i).due)) := rfl
      obtain ⟨p0, p1, d0, d1, w0, w1⟩ := tx
      generalize fineJ (jat l i) (t + (jat l i).work) = f at *
      have hbt : decide ((k : Int) < (m : Int)) = true := by simp; omega
      have hbt2 : (k : Int) < (m : Int) := by omega
      clear hdr x0 x1 hj
      generalize (jat l i).work = p at *
      generalize (jat l i).due = d at *
      generalize (jat l i).wt = x at *
      generalize (jat l i).rel = z at *
      have hb3 := hb.alloc hb.size (.cells #[.int .i64 p, .int .i64 z, .int .i64 d, .int .i64 x, .slice B q qc] 43)
      clear hb
      have key : (f = 0 ∧ t + p ≤ d) ∨ (d < t + p ∧ Hid (f = x * (t + p - d)) ∧ 0 ≤ x * (t + p - d) ∧ x * (t + p - d) ≤ 640000000) := by
        have h := HFd.out
        rcases Int.lt_or_le d (t + p) with h1 | h1
        · right
          rw [show max 0 (t + p - d) = t + p - d by omega] at h
          exact ⟨h1, h, by omega, by omega⟩
        · left
          rw [show max 0 (t + p - d) = 0 by omega, Int.mul_zero] at h
          exact ⟨h, h1⟩
      clear HFd
      rcases key with ⟨rfl, hd⟩ | ⟨hd, HF, f0, f1⟩
      · have e : max u 0 = u := by omega
        rw [e] at HLs
        clear e
        rcases Int.lt_or_le (t + p) d with h1 | h1
        · rcases Int.lt_or_le 0 u with h2 | h2
          · go_wp2_with fail
            go_roundw
            case rel => exact ⟨k + 1, t + p, u, by omega, by go_num, rfl, rfl, by omega, by omega, by omega, by omega, hL.out.trans HLs.out, hb3⟩
            case measure => simp [intOf]; omega
          · obtain rfl : u = 0 := by omega
            go_wp2_with fail
            go_roundw
            case rel => exact ⟨k + 1, t + p, 0, by omega, by go_num, rfl, rfl, by omega, by omega, by omega, by omega, hL.out.trans HLs.out, hb3⟩
            case measure => simp [intOf]; omega
        · obtain rfl : d = t + p := by omega
          clear hd h1
          rcases Int.lt_or_le 0 u with h2 | h2
          · go_wp2_with fail
            go_roundw
            case rel => exact ⟨k + 1, t + p, u, by omega, by go_num, rfl, rfl, by omega, by omega, by omega, by omega, hL.out.trans HLs.out, hb3⟩
            case measure => simp [intOf]; omega
          · obtain rfl : u = 0 := by omega
            go_wp2_with fail
            go_roundw
            case rel => exact ⟨k + 1, t + p, 0, by omega, by go_num, rfl, rfl, by omega, by omega, by omega, by omega, hL.out.trans HLs.out, hb3⟩
            case measure => simp [intOf]; omega
      · have hd2 : 0 < t + p - d := by omega
        rw [HF.out] at HLs
        generalize hG : x * (t + p - d) = G at *
        rcases Int.lt_trichotomy u G with h | h | h
        · have e : max u G = G := by omega
          rw [e] at HLs
          clear e HF hfb
          go_wp2_with fail
          go_roundw
          case rel => exact ⟨k + 1, t + p, G, by omega, by go_num, rfl, rfl, by omega, by omega, by omega, by omega, hL.out.trans HLs.out, hb3⟩
          case measure => simp [intOf]; omega
        · have e : max u G = G := by omega
          rw [e] at HLs
          subst h
          clear e HF hfb
          go_wp2_with fail
          go_roundw
          case rel => exact ⟨k + 1, t + p, u, by omega, by go_num, rfl, rfl, by omega, by omega, by omega, by omega, hL.out.trans HLs.out, hb3⟩
          case measure => simp [intOf]; omega
        · have e : max u G = u := by omega
          rw [e] at HLs
          clear e HF hfb
          go_wp2_with fail
          go_roundw
          case rel => exact ⟨k + 1, t + p, u, by omega, by go_num, rfl, rfl, by omega, by omega, by omega, by omega, hL.out.trans HLs.out, hb3⟩
          case measure => simp [intOf]; omega
    · obtain rfl : k = m := by omega
      have hbt : decide ((k : Int) < (k : Int)) = false := by simp
      have he : o.drop k = [] := List.drop_of_length_le (by rw [rO.1]; exact Nat.le_refl _)
      have HE : Hid (lateF l 0 o = u) := by
        show _ = _
        rw [hL.out, he]
        rfl
      clear he
      go_wp2_with fail
      go_ret
      exact ⟨by rw [HE.out]; rfl, hb⟩
end Go.Proofs.Ytnfcigbiebbjdaa
