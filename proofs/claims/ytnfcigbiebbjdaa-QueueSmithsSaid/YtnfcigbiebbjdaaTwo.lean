/-
  Two benches: the comparison of Johnson's rule, and how long an order takes.
  Conditions: the slices start at the heads of blocks; the times are small.
-/
import Derived.Test.YtnfcigbiebbjdaaSort8
import Derived.Test.YtnfcigbiebbjdaaInts2
namespace Go.Proofs.Ytnfcigbiebbjdaa
open Go.RowKit

theorem iat_nat (l : List Int) (k : Nat) : iat l (k : Int) = l.getD k 0 := by unfold iat; rw [Int.toNat_natCast]
/-- No time is below 0 or above the greatest one. -/
def Small (l : List Int) : Prop := ∀ i, 0 ≤ iat l i ∧ iat l i ≤ 10000

set_option maxHeartbeats 1000000 in
theorem johnCmp_any (A B : Option Addr) (n c d b2 b3 i j : Nat) (f s : List Int) (W : World) (h2 : Blk W b2 23 #[.slice A n c]) (h3 : Blk W b3 23 #[.slice B n d]) (rA : RowH W A n f) (rB : RowH W B n s) (hi : i < n) (hj : j < n) :
    Calls Try.prog 59 #[.int .i64 i, .int .i64 j, .pointer (some ⟨b2, 0, none⟩), .pointer (some ⟨b3, 0, none⟩)] W fun e w' => e = .returned (.int .i64 (johnC f s i j)) ∧ Below W.heap.size W w' := by
  obtain ⟨g, rfl, hg, ci⟩ := rA.at_ hi
  obtain ⟨g', e1, _, cj⟩ := rA.at_ hj
  cases e1
  obtain ⟨k, rfl, hk, di⟩ := rB.at_ hi
  obtain ⟨k', e1, _, dj⟩ := rB.at_ hj
  cases e1
  have x2 := h2.cell
  have x3 := h3.cell
  have l2 := h2.lt
  have l3 := h3.lt
  have HJ : Hid (johnC f s i j = if f.getD i 0 < s.getD i 0 ∧ ¬ f.getD j 0 < s.getD j 0 then -1 else if f.getD j 0 < s.getD j 0 ∧ ¬ f.getD i 0 < s.getD i 0 then 1
    else if f.getD i 0 < s.getD i 0 then cmpI (f.getD i 0) (f.getD j 0) else cmpI (s.getD j 0) (s.getD i 0)) := by
    show _ = _
    unfold johnC
    simp only [iat_nat]
  clear rA rB h2 h3
  generalize f.getD i 0 = fi at *
  generalize f.getD j 0 = fj at *
  generalize s.getD i 0 = si at *
  generalize s.getD j 0 = sj at *
  rw [HJ.out]
  have hx := later_cell (w := W)
  go_enter Try.func59, Try.ntmps59
  by_cases p : fi < si <;> by_cases q : fj < sj
  · have e : (if fi < si ∧ ¬ fj < sj then (-1 : Int) else if fj < sj ∧ ¬ fi < si then 1 else if fi < si then cmpI fi fj else cmpI sj si) = cmpI fi fj := by simp [p, q]
    rw [e]
    clear e
    have hp1 : decide (fi < si) = true := by simpa using p
    have hq1 : decide (fj < sj) = true := by simpa using q
    go_wp2_with fail
    refine wp_region_later (by kernel_rfl) (by kernel_rfl) ?_
    repeat (go_big_quiet_step (fail))
    refine wpQuiet_nil ?_
    rintro w2 ⟨⟨_, hb2⟩, rfl⟩
    have y2 : ∀ o, w2.cell? ⟨b2, o, none⟩ = W.cell? ⟨b2, o, none⟩ := fun o => hb2.cell (p := ⟨b2, o, none⟩) l2
    have y3 : ∀ o, w2.cell? ⟨b3, o, none⟩ = W.cell? ⟨b3, o, none⟩ := fun o => hb2.cell (p := ⟨b3, o, none⟩) l3
    have yg : ∀ o, w2.cell? ⟨g, o, none⟩ = W.cell? ⟨g, o, none⟩ := fun o => hb2.cell (p := ⟨g, o, none⟩) hg
    have yk : ∀ o, w2.cell? ⟨k, o, none⟩ = W.cell? ⟨k, o, none⟩ := fun o => hb2.cell (p := ⟨k, o, none⟩) hk
    have sz := hb2.size
    clear hx
    have l2' : b2 < w2.heap.size := by omega
    have l3' : b3 < w2.heap.size := by omega
    have hg' : g < w2.heap.size := by omega
    have hk' : k < w2.heap.size := by omega
    have hx := later_cell (w := w2)
    go_wp2_with fail
    refine wp_region_later (by kernel_rfl) (by kernel_rfl) ?_
    repeat (go_big_quiet_step ((go_at_call 56; exact later_same ((compare_any _ _ _)))))
    refine wpQuiet_nil ?_
    rintro w3 ⟨⟨_, hb3⟩, rfl⟩
    go_wp2_with fail
    go_ret
    exact ⟨rfl, hb2.trans (hb3.mono sz)⟩
  · have e : (if fi < si ∧ ¬ fj < sj then (-1 : Int) else if fj < sj ∧ ¬ fi < si then 1 else if fi < si then cmpI fi fj else cmpI sj si) = -1 := by simp [p, q]
    rw [e]
    clear e
    have hp1 : decide (fi < si) = true := by simpa using p
    have hq1 : decide (fj < sj) = false := by simpa using q
    go_wp2_with fail
    refine wp_region_later (by kernel_rfl) (by kernel_rfl) ?_
    repeat (go_big_quiet_step (fail))
    refine wpQuiet_nil ?_
    rintro w2 ⟨⟨_, hb2⟩, rfl⟩
    go_wp2_with fail
    go_ret
    exact ⟨rfl, hb2⟩
  · have e : (if fi < si ∧ ¬ fj < sj then (-1 : Int) else if fj < sj ∧ ¬ fi < si then 1 else if fi < si then cmpI fi fj else cmpI sj si) = 1 := by simp [p, q]
    rw [e]
    clear e
    have hp1 : decide (fi < si) = false := by simpa using p
    have hq1 : decide (fj < sj) = true := by simpa using q
    go_wp2_with fail
    refine wp_region_later (by kernel_rfl) (by kernel_rfl) ?_
    repeat (go_big_quiet_step (fail))
    refine wpQuiet_nil ?_
    rintro w2 ⟨⟨_, hb2⟩, rfl⟩
    go_wp2_with fail
    go_ret
    exact ⟨rfl, hb2⟩
  · have e : (if fi < si ∧ ¬ fj < sj then (-1 : Int) else if fj < sj ∧ ¬ fi < si then 1 else if fi < si then cmpI fi fj else cmpI sj si) = cmpI sj si := by simp [p, q]
    rw [e]
    clear e
    have hp1 : decide (fi < si) = false := by simpa using p
    have hq1 : decide (fj < sj) = false := by simpa using q
    go_wp2_with fail
    refine wp_region_later (by kernel_rfl) (by kernel_rfl) ?_
    repeat (go_big_quiet_step (fail))
    refine wpQuiet_nil ?_
    rintro w2 ⟨⟨_, hb2⟩, rfl⟩
    have y2 : ∀ o, w2.cell? ⟨b2, o, none⟩ = W.cell? ⟨b2, o, none⟩ := fun o => hb2.cell (p := ⟨b2, o, none⟩) l2
    have y3 : ∀ o, w2.cell? ⟨b3, o, none⟩ = W.cell? ⟨b3, o, none⟩ := fun o => hb2.cell (p := ⟨b3, o, none⟩) l3
    have yg : ∀ o, w2.cell? ⟨g, o, none⟩ = W.cell? ⟨g, o, none⟩ := fun o => hb2.cell (p := ⟨g, o, none⟩) hg
    have yk : ∀ o, w2.cell? ⟨k, o, none⟩ = W.cell? ⟨k, o, none⟩ := fun o => hb2.cell (p := ⟨k, o, none⟩) hk
    have sz := hb2.size
    clear hx
    have l2' : b2 < w2.heap.size := by omega
    have l3' : b3 < w2.heap.size := by omega
    have hg' : g < w2.heap.size := by omega
    have hk' : k < w2.heap.size := by omega
    have hx := later_cell (w := w2)
    go_wp2_with fail
    refine wp_region_later (by kernel_rfl) (by kernel_rfl) ?_
    repeat (go_big_quiet_step ((go_at_call 56; exact later_same ((compare_any _ _ _)))))
    refine wpQuiet_nil ?_
    rintro w3 ⟨⟨_, hb3⟩, rfl⟩
    go_wp2_with fail
    go_ret
    exact ⟨rfl, hb2.trans (hb3.mono sz)⟩

theorem drop_step {o : List Int} {k : Nat} {x : Int} (h : o[k]? = some x) : o.drop k = x :: o.drop (k + 1) := by
  rw [List.drop_eq_getElem_cons (List.getElem?_eq_some_iff.1 h).1, (List.getElem?_eq_some_iff.1 h).2]
theorem getD_get {o : List Int} {k : Nat} (h : k < o.length) : o[k]? = some (o.getD k 0) := by
  rw [List.getD_eq_getElem?_getD, List.getElem?_eq_getElem h]
  rfl

set_option maxHeartbeats 1000000 in
/-- How long an order takes. -/
theorem length_any (A B O : Option Addr) (n c d m e : Nat) (f s o : List Int) (W : World) (rA : RowH W A n f) (rB : RowH W B n s) (rO : RowH W O m o) (sf : Small f) (ss : Small s) (ho : ∀ x ∈ o, 0 ≤ x ∧ x < (n : Int)) (hm : m ≤ 1000) :
    Calls Try.prog 60 #[.slice A n c, .slice B n d, .slice O m e] W fun e w' => e = .returned (.int .i64 (lenF f s 0 0 o)) ∧ W = w' := by
  have HF := Lib.hid sf
  have HS := Lib.hid ss
  have HO := Lib.hid ho
  clear sf ss ho
  go_enter Try.func60, Try.ntmps60
  go_wp2_with fail
  go_loopw [13, 7, 8] (fun i a b wr => ∃ (k : Nat) (t u : Int), k ≤ m ∧ i = .int .i64 k ∧ a = .int .i64 t ∧ b = .int .i64 u ∧ 0 ≤ t ∧ t ≤ 10000 * k ∧ 0 ≤ u ∧ u ≤ 30000 * k ∧ Hid (lenF f s 0 0 o = lenF f s t u (o.drop k)) ∧ W = wr) (fun i _ _ _ => m - (intOf i).toNat)
  case atStart => exact ⟨0, 0, 0, Nat.zero_le _, rfl, rfl, rfl, Int.le_refl _, by omega, Int.le_refl _, by omega, rfl, rfl⟩
  case round =>
    obtain ⟨k, t, u, hk, rfl, rfl, rfl, t0, t1, u0, u1, hL, rfl⟩ := hrel
    by_cases hlt : k < m
    · obtain ⟨go, rfl, hgo, co⟩ := rO.at_ hlt
      have hol : o[k]? = some (o.getD k 0) := getD_get (by rw [rO.1]; exact hlt)
      have hx := HO.out _ (List.mem_of_getElem? hol)
      have hdr := Lib.hid (drop_step hol)
      clear hol
      generalize o.getD k 0 = x at *
      obtain ⟨x0, x1⟩ := hx
      obtain ⟨i, rfl⟩ := Int.eq_ofNat_of_zero_le x0
      have hi : i < n := by omega
      obtain ⟨g, rfl, hg, ci⟩ := rA.at_ hi
      obtain ⟨h, rfl, hh, di⟩ := rB.at_ hi
      have bf := HF.out i
      have bs := HS.out i
      rw [iat_nat] at bf bs
      have HLs : Hid (lenF f s t u (o.drop k) = lenF f s (t + f.getD i 0) (max (t + f.getD i 0) u + s.getD i 0) (o.drop (k + 1))) := by
        show _ = _
        rw [hdr.out]
        simp only [lenF, iat_nat]
      generalize f.getD i 0 = p at *
      generalize s.getD i 0 = q at *
      obtain ⟨p0, p1⟩ := bf
      obtain ⟨q0, q1⟩ := bs
      have hbt : decide ((k : Int) < (m : Int)) = true := by simp; omega
      have hbt2 : (k : Int) < (m : Int) := by omega
      clear hdr x0 x1
      rcases Int.lt_trichotomy (t + p) u with hmx | hmx | hmx
      · have e1 : max (t + p) u = u := by omega
        rw [e1] at HLs
        clear e1
        go_wp2_with fail
        go_roundw
        case rel => exact ⟨k + 1, t + p, u + q, by omega, by go_num, rfl, rfl, by omega, by omega, by omega, by omega, hL.out.trans HLs.out, trivial⟩
        case measure => simp [intOf]; omega
      · have e1 : max (t + p) u = u := by omega
        rw [e1] at HLs
        have HE := Lib.hid hmx
        subst hmx
        clear e1
        go_wp2_with fail
        go_roundw
        case rel => exact ⟨k + 1, t + p, t + p + q, by omega, by go_num, rfl, rfl, by omega, by omega, by omega, by omega, hL.out.trans HLs.out, trivial⟩
        case measure => simp [intOf]; omega
      · have e1 : max (t + p) u = t + p := by omega
        rw [e1] at HLs
        clear e1
        have hn2 : ¬ (t + p < u) := by omega
        go_wp2_with fail
        go_roundw
        case rel => exact ⟨k + 1, t + p, t + p + q, by omega, by go_num, rfl, rfl, by omega, by omega, by omega, by omega, hL.out.trans HLs.out, trivial⟩
        case measure => simp [intOf]; omega
    · obtain rfl : k = m := by omega
      have hbt : decide ((k : Int) < (k : Int)) = false := by simp
      have he : o.drop k = [] := List.drop_of_length_le (by rw [rO.1]; exact Nat.le_refl _)
      have HE : Hid (lenF f s 0 0 o = u) := by
        show _ = _
        rw [hL.out, he]
        rfl
      clear he
      go_wp2_with fail
      go_ret
      exact ⟨by rw [HE.out]; rfl, rfl⟩

set_option maxHeartbeats 1000000 in
/-- How long an order takes, as the document says. -/
theorem rLength_any (A B O : Option Addr) (n c d m e : Nat) (f s o : List Int) (W : World) (rA : RowH W A n f) (rB : RowH W B n s) (rO : RowH W O m o) (sf : Small f) (ss : Small s) (ho : ∀ x ∈ o, 0 ≤ x ∧ x < (n : Int)) (hm : m ≤ 1000) :
    Calls Try.prog 26 #[.slice A n c, .slice B n d, .slice O m e] W fun e w' => e = .returned (.int .i64 (lenF f s 0 0 o)) ∧ W = w' := by
  have HF := Lib.hid sf
  have HS := Lib.hid ss
  have HO := Lib.hid ho
  clear sf ss ho
  go_enter Try.func26, Try.ntmps26
  go_wp2_with fail
  go_loopw [9, 7, 8] (fun i a b wr => ∃ (k : Nat) (t u : Int), k ≤ m ∧ i = .int .i64 k ∧ a = .int .i64 t ∧ b = .int .i64 u ∧ 0 ≤ t ∧ t ≤ 10000 * k ∧ 0 ≤ u ∧ u ≤ 30000 * k ∧ Hid (lenF f s 0 0 o = lenF f s t u (o.drop k)) ∧ W = wr) (fun i _ _ _ => m - (intOf i).toNat)
  case atStart => exact ⟨0, 0, 0, Nat.zero_le _, rfl, rfl, rfl, Int.le_refl _, by omega, Int.le_refl _, by omega, rfl, rfl⟩
  case round =>
    obtain ⟨k, t, u, hk, rfl, rfl, rfl, t0, t1, u0, u1, hL, rfl⟩ := hrel
    by_cases hlt : k < m
    · obtain ⟨go, rfl, hgo, co⟩ := rO.at_ hlt
      have hol : o[k]? = some (o.getD k 0) := getD_get (by rw [rO.1]; exact hlt)
      have hx := HO.out _ (List.mem_of_getElem? hol)
      have hdr := Lib.hid (drop_step hol)
      clear hol
      generalize o.getD k 0 = x at *
      obtain ⟨x0, x1⟩ := hx
      obtain ⟨i, rfl⟩ := Int.eq_ofNat_of_zero_le x0
      have hi : i < n := by omega
      obtain ⟨g, rfl, hg, ci⟩ := rA.at_ hi
      obtain ⟨h, rfl, hh, di⟩ := rB.at_ hi
      have bf := HF.out i
      have bs := HS.out i
      rw [iat_nat] at bf bs
      have HLs : Hid (lenF f s t u (o.drop k) = lenF f s (t + f.getD i 0) (max (t + f.getD i 0) u + s.getD i 0) (o.drop (k + 1))) := by
        show _ = _
        rw [hdr.out]
        simp only [lenF, iat_nat]
      generalize f.getD i 0 = p at *
      generalize s.getD i 0 = q at *
      obtain ⟨p0, p1⟩ := bf
      obtain ⟨q0, q1⟩ := bs
      have hbt : decide ((k : Int) < (m : Int)) = true := by simp; omega
      have hbt2 : (k : Int) < (m : Int) := by omega
      clear hdr x0 x1
      rcases Int.lt_trichotomy (t + p) u with hmx | hmx | hmx
      · have e1 : max (t + p) u = u := by omega
        rw [e1] at HLs
        clear e1
        go_wp2_with fail
        go_roundw
        case rel => exact ⟨k + 1, t + p, u + q, by omega, by go_num, rfl, rfl, by omega, by omega, by omega, by omega, hL.out.trans HLs.out, trivial⟩
        case measure => simp [intOf]; omega
      · have e1 : max (t + p) u = u := by omega
        rw [e1] at HLs
        have HE := Lib.hid hmx
        subst hmx
        clear e1
        go_wp2_with fail
        go_roundw
        case rel => exact ⟨k + 1, t + p, t + p + q, by omega, by go_num, rfl, rfl, by omega, by omega, by omega, by omega, hL.out.trans HLs.out, trivial⟩
        case measure => simp [intOf]; omega
      · have e1 : max (t + p) u = t + p := by omega
        rw [e1] at HLs
        clear e1
        have hn2 : ¬ (t + p < u) := by omega
        go_wp2_with fail
        go_roundw
        case rel => exact ⟨k + 1, t + p, t + p + q, by omega, by go_num, rfl, rfl, by omega, by omega, by omega, by omega, hL.out.trans HLs.out, trivial⟩
        case measure => simp [intOf]; omega
    · obtain rfl : k = m := by omega
      have hbt : decide ((k : Int) < (k : Int)) = false := by simp
      have he : o.drop k = [] := List.drop_of_length_le (by rw [rO.1]; exact Nat.le_refl _)
      have HE : Hid (lenF f s 0 0 o = u) := by
        show _ = _
        rw [hL.out, he]
        rfl
      clear he
      go_wp2_with fail
      go_ret
      exact ⟨by rw [HE.out]; rfl, rfl⟩
end Go.Proofs.Ytnfcigbiebbjdaa
