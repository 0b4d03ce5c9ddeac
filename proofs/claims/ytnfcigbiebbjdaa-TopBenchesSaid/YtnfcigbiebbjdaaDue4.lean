/-
  The program's Weighted, Late and Able of any order; what it refuses.
  Conditions: the slices start at the heads of blocks and are not longer than 1000.
-/
import Derived.Test.YtnfcigbiebbjdaaDue3
namespace Go.Proofs.Ytnfcigbiebbjdaa
open Go.RowKit

set_option maxHeartbeats 1000000 in
theorem contains_any (A : Option Addr) (n c : Nat) (l : List Int) (x : Int) (w : World) (rA : RowH w A n l) (hn : n ≤ 1000) :
    Calls Try.prog 77 #[.slice A n c, .int .i64 x] w fun e w' => ∃ b : Bool, e = .returned (.bool b) ∧ (b = true ↔ x ∈ l) ∧ w = w' := by
  have HL := Lib.hid rA.1
  have key : Hid (Calls Try.prog 90 #[.slice A n c, .int .i64 x] w fun e w' => ∃ q : Int, e = .returned (.int .i64 q) ∧ (0 ≤ q ↔ x ∈ l) ∧ w = w') := by
    show Calls _ _ _ _ _
    have H0 : Hid (x ∉ l.take 0) := by show _ ∉ _; simp
    go_enter Try.func90, Try.ntmps90
    go_wp2_with fail
    go_loopw [8] (fun i wr => ∃ k : Nat, k ≤ n ∧ i = .int .i64 k ∧ Hid (x ∉ l.take k) ∧ w = wr) (fun i _ => n - (intOf i).toNat)
    case atStart => exact ⟨0, Nat.zero_le _, rfl, H0, rfl⟩
    case round =>
      clear H0
      obtain ⟨k, hk, rfl, hN, rfl⟩ := hrel
      by_cases hlt : k < n
      · have hbt : decide ((k : Int) < (n : Int)) = true := by simp; omega
        have hbt2 : (k : Int) < (n : Int) := by omega
        obtain ⟨g, rfl, hg, hc⟩ := rA.at_ hlt
        have hok : l[k]? = some (l.getD k 0) := getD_get (by rw [HL.out]; exact hlt)
        have HK := Lib.hid hok
        clear hok
        generalize l.getD k 0 = y at *
        by_cases hxy : x = y
        · subst hxy
          have u1 : (x == x) = true := by simp
          have HM : Hid (x ∈ l) := List.mem_of_getElem? HK.out
          clear hN HK
          go_wp2_with fail
          go_ret
          exact ⟨(k : Int), rfl, ⟨fun _ => HM.out, fun _ => by omega⟩, rfl⟩
        · have u1 : (x == y) = false := by simpa using hxy
          have HN2 := Lib.hid (not_mem_take_next hN.out HK.out (fun e => hxy e.symm))
          clear hN HK
          go_wp2_with fail
          go_roundw
          case rel => exact ⟨k + 1, by omega, by go_num, HN2.out, trivial⟩
          case measure => simp [intOf]; omega
      · obtain rfl : k = n := by omega
        have hbt : decide ((k : Int) < (k : Int)) = false := by simp
        have HM : Hid (¬ (x ∈ l)) := by
          have := hN.out
          rwa [List.take_of_length_le (by rw [HL.out]; exact Nat.le_refl _)] at this
        clear hN
        go_wp2_with fail
        go_ret
        exact ⟨-1, rfl, ⟨fun h => by omega, fun h => absurd h HM.out⟩, rfl⟩
  go_enter Try.func77, Try.ntmps77
  go_wp2_with fail
  refine key.out.mono ?_
  rintro e w' ⟨q, rfl, hq, rfl⟩
  have HQ := Lib.hid hq
  clear hq key
  by_cases h0 : 0 ≤ q
  · have u1 : decide (q ≥ 0) = true := by simpa using h0
    go_wp2_with fail
    go_ret
    exact ⟨true, rfl, ⟨fun _ => HQ.out.1 h0, fun _ => rfl⟩, rfl⟩
  · have u1 : decide (q ≥ 0) = false := by simpa using h0
    go_wp2_with fail
    go_ret
    exact ⟨false, rfl, ⟨fun h => (by cases h), fun h => absurd (HQ.out.2 h) (by omega)⟩, rfl⟩

/-- Two results: a number and an error. -/
def Err2 (r : Int) (w : World) (e : Ending) (w' : World) : Prop := e = .returned (.tuple #[.int .i64 0, .int .i64 r]) ∧ Below w.heap.size w w'
set_option maxRecDepth 100000 in
theorem qWeighted_no (A O : Option Addr) (n c m e : Nat) (l : List Jb) (w : World) (rA : JobsH w A n l) (hm : ∀ (k : Nat) (j : Jb), l[k]? = some j → j.after.length ≤ 1000) (hn : n ≤ 1000) (hv : validB l = false) :
    Calls Try.prog 47 #[.slice A n c, .slice O m e] w (Err2 1 w) := by
  have M1 := Lib.hid (Check_no A n c l w rA hm hn hv)
  clear hm
  go_enter Try.func47, Try.ntmps47
  go_wp2_with fail
  refine M1.out.mono ?_
  rintro e w1 ⟨rfl, hb1⟩
  go_wp2_with fail
  go_ret2
  exact ⟨rfl, hb1⟩
set_option maxRecDepth 100000 in
theorem qLate_no (A O : Option Addr) (n c m e : Nat) (l : List Jb) (w : World) (rA : JobsH w A n l) (hm : ∀ (k : Nat) (j : Jb), l[k]? = some j → j.after.length ≤ 1000) (hn : n ≤ 1000) (hv : validB l = false) :
    Calls Try.prog 48 #[.slice A n c, .slice O m e] w (Err2 1 w) := by
  have M1 := Lib.hid (Check_no A n c l w rA hm hn hv)
  clear hm
  go_enter Try.func48, Try.ntmps48
  go_wp2_with fail
  refine M1.out.mono ?_
  rintro e w1 ⟨rfl, hb1⟩
  go_wp2_with fail
  go_ret2
  exact ⟨rfl, hb1⟩
set_option maxRecDepth 100000 in
theorem qAble_no (A O : Option Addr) (n c m e : Nat) (l : List Jb) (w : World) (rA : JobsH w A n l) (hm : ∀ (k : Nat) (j : Jb), l[k]? = some j → j.after.length ≤ 1000) (hn : n ≤ 1000) (hv : validB l = false) :
    Calls Try.prog 49 #[.slice A n c, .slice O m e] w fun e w' => e = .returned (.tuple #[.bool false, .int .i64 1]) ∧ Below w.heap.size w w' := by
  have M1 := Lib.hid (Check_no A n c l w rA hm hn hv)
  clear hm
  go_enter Try.func49, Try.ntmps49
  go_wp2_with fail
  refine M1.out.mono ?_
  rintro e w1 ⟨rfl, hb1⟩
  go_wp2_with fail
  go_ret2
  exact ⟨rfl, hb1⟩

/-- What the program's Weighted returns. -/
def QWtdR (l : List Jb) (o : List Int) (n : Nat) (w : World) (e : Ending) (w' : World) : Prop :=
  ∃ (a r : Int), e = .returned (.tuple #[.int .i64 a, .int .i64 r]) ∧ (¬ isOrd n o ∧ a = 0 ∧ r = 2 ∨ isOrd n o ∧ a = wsum l 0 o ∧ r = 0) ∧ Below w.heap.size w w'
set_option maxRecDepth 100000 in
theorem qWeighted_any (A O : Option Addr) (n c m e : Nat) (l : List Jb) (o : List Int) (w : World) (rA : JobsH w A n l) (rO : RowH w O m o) (hv : validB l = true) (hm : m ≤ 100) :
    Calls Try.prog 47 #[.slice A n c, .slice O m e] w (QWtdR l o n w) := by
  have hn : n ≤ 64 := by
    have h := hv
    unfold validB at h
    simp only [Bool.and_eq_true, decide_eq_true_eq] at h
    rw [← rA.1]; exact h.1
  have HT : Hid (∀ (k : Nat) (x : Jb), l[k]? = some x → Tame x) := fun k x h => validB_tame hv h
  have M1 := Lib.hid (Check_yes A n c l w rA hv)
  clear hv
  go_enter Try.func47, Try.ntmps47
  go_wp2_with fail
  refine M1.out.mono ?_
  rintro e1 w1 ⟨rfl, hb1⟩
  have rA1 := rA.later hb1
  have rO1 := rO.later hb1
  have W1 := Lib.hid (whole_any O m e n o w1 rO1 (by omega) (by omega))
  clear M1 rA rO
  go_wp2_with fail
  refine W1.out.mono ?_
  rintro e2 w2 ⟨b, rfl, hbt, hb2⟩
  have HB := Lib.hid hbt
  have rA2 := rA1.later hb2
  have rO2 := rO1.later hb2
  have hw2 := hb1.trans (hb2.mono hb1.size)
  clear W1 hbt rA1 rO1 hb1 hb2
  cases b with
  | false =>
    have HF : Hid (¬ isOrd n o) := fun h => by have := HB.out.2 h; cases this
    clear HB
    go_wp2_with fail
    go_ret2
    exact ⟨0, 2, rfl, .inl ⟨HF.out, rfl, rfl⟩, hw2⟩
  | true =>
    have HO : Hid (isOrd n o) := HB.out.1 rfl
    have hmn : m = n := by rw [← rO2.1]; exact HO.out.1
    have M3 := Lib.hid (weighted_any A O n c m e l o w2 rA2 rO2 HT.out HO.out.2.2 (by omega))
    clear HB hmn
    go_wp2_with fail
    refine M3.out.mono ?_
    rintro e w' ⟨rfl, rfl⟩
    go_wp2_with fail
    go_ret2
    exact ⟨_, 0, rfl, .inr ⟨HO.out, rfl, rfl⟩, hw2⟩

/-- What the program's Late returns. -/
def QLateR (l : List Jb) (o : List Int) (n : Nat) (w : World) (e : Ending) (w' : World) : Prop :=
  ∃ (a r : Int), e = .returned (.tuple #[.int .i64 a, .int .i64 r]) ∧ (¬ isOrd n o ∧ a = 0 ∧ r = 2 ∨ isOrd n o ∧ ¬ Kept l o ∧ a = 0 ∧ r = 2 ∨ isOrd n o ∧ Kept l o ∧ a = lateF l 0 o ∧ r = 0) ∧ Below w.heap.size w w'
/-- What the first k come after stands ahead of them. -/
def KeptTo (l : List Jb) (o : List Int) (k : Nat) : Prop := ∀ (t : Nat) (z : Int), t < k → o[t]? = some z → ∀ a ∈ (jat l z).after, a ∈ o.take t
theorem KeptTo.zero (l : List Jb) (o : List Int) : KeptTo l o 0 := fun t z h => by omega
theorem KeptTo.next {l : List Jb} {o : List Int} {k : Nat} {x : Int} (h : KeptTo l o k) (hx : o[k]? = some x) (hn : ∀ a ∈ (jat l x).after, a ∈ o.take k) : KeptTo l o (k + 1) := fun t z ht hz => by
  rcases Nat.lt_or_ge t k with h2 | h2
  · exact h t z h2 hz
  · obtain rfl : t = k := by omega
    rw [hx] at hz
    injection hz with hz
    subst hz
    exact hn
/-- The first q of a list lie in another one. -/
def SubTo (a b : List Int) (q : Nat) : Prop := ∀ x ∈ a.take q, x ∈ b
theorem SubTo.zero (a b : List Int) : SubTo a b 0 := fun x h => by simp at h
theorem SubTo.next {a b : List Int} {q : Nat} {x : Int} (h : SubTo a b q) (hx : a[q]? = some x) (hm : x ∈ b) : SubTo a b (q + 1) := fun z hz => by
  rw [List.take_add_one, hx] at hz
  rcases List.mem_append.1 hz with hz | hz
  · exact h z hz
  · obtain rfl : z = x := by simpa using hz
    exact hm
theorem RowH.take {w : World} {A : Option Addr} {n m : Nat} {l : List Int} (h : RowH w A n l) (hm : m ≤ n) : RowH w A m (l.take m) :=
  ⟨by rw [List.length_take, h.1]; omega, fun h0 => by
    obtain ⟨g, e, hg, hc⟩ := h.2 (by omega)
    refine ⟨g, e, hg, fun k v hk => hc k v ?_⟩
    rw [List.getElem?_take] at hk
    split at hk
    · exact hk
    · simp at hk⟩

set_option maxRecDepth 100000 in
set_option maxHeartbeats 4000000 in
theorem qLate_any (A O : Option Addr) (n c m e : Nat) (l : List Jb) (o : List Int) (w : World) (rA : JobsH w A n l) (rO : RowH w O m o) (hv : validB l = true) (hm : m ≤ 100) (hme : m ≤ e) :
    Calls Try.prog 48 #[.slice A n c, .slice O m e] w (QLateR l o n w) := by
  have hn : n ≤ 64 := by
    have h := hv
    unfold validB at h
    simp only [Bool.and_eq_true, decide_eq_true_eq] at h
    rw [← rA.1]; exact h.1
  have HC : Hid (∀ (k : Nat) (x : Jb), l[k]? = some x → Calm x) := fun k x h => validB_calm hv h
  have HV := Lib.hid hv
  have M1 := Lib.hid (Check_yes A n c l w rA hv)
  have HL := Lib.hid rO.1
  clear hv
  go_enter Try.func48, Try.ntmps48
  go_wp2_with fail
  refine M1.out.mono ?_
  rintro e1 w1 ⟨rfl, hb1⟩
  have rO1 := rO.later hb1
  have W1 := Lib.hid (whole_any O m e n o w1 rO1 (by omega) (by omega))
  clear M1
  go_wp2_with fail
  refine W1.out.mono ?_
  rintro e2 w2 ⟨b, rfl, hbt, hb2⟩
  have HB := Lib.hid hbt
  have rO2 := rO1.later hb2
  have hw2 := hb1.trans (hb2.mono hb1.size)
  clear W1 hbt rO1 hb1 hb2 rO
  cases b with
  | false =>
    have HF : Hid (¬ isOrd n o) := fun h => by have := HB.out.2 h; cases this
    clear HB
    go_wp2_with fail
    go_ret2
    exact ⟨0, 2, rfl, .inl ⟨HF.out, rfl, rfl⟩, hw2⟩
  | true =>
    have HO : Hid (isOrd n o) := HB.out.1 rfl
    have hmn : m = n := by rw [← HL.out]; exact HO.out.1
    have HKp : Hid (Kept l o ↔ ∀ (t : Nat) (z : Int), o[t]? = some z → ∀ a ∈ (jat l z).after, a ∈ o.take t) := kept_pre HO.out (validB_up HV.out)
    have H0 := Lib.hid (KeptTo.zero l o)
    have HMN := Lib.hid hmn
    clear HB hmn
    go_wp2_with fail
    go_loopw [23] (fun i wr => ∃ k : Nat, k ≤ m ∧ i = .int .i64 k ∧ KeptTo l o k ∧ w2 = wr) (fun i _ => m - (intOf i).toNat)
    case atStart => exact ⟨0, Nat.zero_le _, rfl, H0.out, rfl⟩
    case round =>
      clear H0
      obtain ⟨k, hk, rfl, hK, rfl⟩ := hrel
      by_cases hlt : k < m
      · have hbt : decide ((k : Int) < (m : Int)) = true := by simp; omega
        have hbt2 : (k : Int) < (m : Int) := by omega
        obtain ⟨go, e1, hgo, co⟩ := rO2.at_ hlt
        subst e1
        have hok : o[k]? = some (o.getD k 0) := getD_get (by rw [HL.out]; exact hlt)
        have hx := HO.out.2.2 _ (List.mem_of_getElem? hok)
        have HK := Lib.hid hok
        clear hok
        generalize o.getD k 0 = x at *
        obtain ⟨x0, x1⟩ := hx
        obtain ⟨i, rfl⟩ := Int.eq_ofNat_of_zero_le x0
        have hi : i < n := by omega
        have hii : (i : Int) < (n : Int) := by omega
        obtain ⟨g, B, mB, cB, e1, hg, hj, c0, c1, c2, c3, c4, hrow⟩ := rA.both hw2 hi
        subst e1
        have hlen := validB_len HV.out (i : Int)
        have hmj : (jat l i).after.length = mB := hrow.1
        have hrow2 := hrow.later hw2
        have HKt := Lib.hid hK
        have HS0 := Lib.hid (SubTo.zero (jat l i).after (o.take k))
        have hmB : mB ≤ 64 := by omega
        have C1 : Hid (∀ y, Calls Try.prog 77 #[.slice (some ⟨go, 0, none⟩) k e, .int .i64 y] w2 fun e w' => ∃ b : Bool, e = .returned (.bool b) ∧ (b = true ↔ y ∈ o.take k) ∧ w2 = w') := fun y => contains_any (some ⟨go, 0, none⟩) k e (o.take k) y w2 (rO2.take (by omega)) (by omega)
        have HAf : Hid (KeptTo l o k ∧ ((∀ a ∈ (jat l i).after, a ∈ o.take k) → KeptTo l o (k + 1)) ∧ ((∃ a ∈ (jat l i).after, a ∉ o.take k) → ¬ Kept l o)) := by
          refine ⟨hK, fun h => hK.next HK.out h, fun ⟨a, ha, hna⟩ h => ?_⟩
          exact hna ((HKp.out.1 h) k _ HK.out a ha)
        clear hj hK hrow c0 c1 c2 c3 hlen x0 HK
        generalize jat l i = j at *
        have hke : k ≤ e := by omega
        have hkei : (k : Int) ≤ (e : Int) := by omega
        go_wp2_with fail
        go_loopw [34] (fun i wr => ∃ q : Nat, q ≤ mB ∧ i = .int .i64 q ∧ SubTo j.after (o.take k) q ∧ w2 = wr) (fun i _ => mB - (intOf i).toNat)
        case atStart => exact ⟨0, Nat.zero_le _, rfl, HS0.out, rfl⟩
        case round =>
          clear HS0
          obtain ⟨q, hq, rfl, hS, rfl⟩ := hrel
          by_cases hqm : q < mB
          · have ubt : decide ((q : Int) < (mB : Int)) = true := by simp; omega
            have ubt2 : (q : Int) < (mB : Int) := by omega
            obtain ⟨g2, e1, hg2, cq⟩ := hrow2.at_ hqm
            subst e1
            have hyq : j.after[q]? = some (j.after.getD q 0) := getD_get (by rw [hmj]; exact hqm)
            have HY := Lib.hid hyq
            clear hyq
            generalize j.after.getD q 0 = y at *
            have C2 := Lib.hid (C1.out y)
            go_wp2_with fail
            refine C2.out.mono ?_
            rintro e3 w' ⟨b, rfl, hbm, rfl⟩
            have HBm := Lib.hid hbm
            clear hbm C2
            cases b with
            | true =>
              have HN := Lib.hid (hS.next HY.out (HBm.out.1 rfl))
              clear hS HY HBm
              go_wp2_with fail
              go_roundw
              case rel => exact ⟨q + 1, by omega, by go_num, HN.out, trivial⟩
              case measure => simp [intOf]; omega
            | false =>
              have HNo : Hid (¬ Kept l o) := HAf.out.2.2 ⟨y, List.mem_of_getElem? HY.out, fun h => by have := HBm.out.2 h; cases this⟩
              clear hS HY HBm
              go_wp2_with fail
              go_ret2
              exact ⟨0, 2, rfl, .inr (.inl ⟨HO.out, HNo.out, rfl, rfl⟩), hw2⟩
          · obtain rfl : q = mB := by omega
            have ubt : decide ((q : Int) < (q : Int)) = false := by simp
            have HN : Hid (KeptTo l o (k + 1)) := HAf.out.2.1 (by
              have h := hS
              unfold SubTo at h
              rwa [List.take_of_length_le (by omega)] at h)
            clear hS
            go_wp2_with fail
            go_roundw
            case rel => exact ⟨k + 1, by omega, by go_num, HN.out, trivial⟩
            case measure => simp [intOf]; omega
      · obtain rfl : k = m := by omega
        have hbt : decide ((k : Int) < (k : Int)) = false := by simp
        have HYes : Hid (Kept l o) := HKp.out.2 fun t z hz => hK t z (by have := (List.getElem?_eq_some_iff.1 hz).1; rw [HL.out] at this; exact this) hz
        have M3 := Lib.hid (late_any A O n c k e l o w2 (rA.later hw2) rO2 HC.out HO.out.2.2 (by have := HMN.out; omega))
        clear hK
        go_wp2_with fail
        refine M3.out.mono ?_
        rintro e w3 ⟨rfl, hb3⟩
        have hfin := hw2.trans (hb3.mono hw2.size)
        go_wp2_with fail
        go_ret2
        exact ⟨_, 0, rfl, .inr (.inr ⟨HO.out, HYes.out, rfl, rfl⟩), hfin⟩

theorem bad_any (A : Option Addr) (n c : Nat) (l : List Jb) (w : World) (rA : JobsH w A n l) (hm : ∀ (k : Nat) (j : Jb), l[k]? = some j → j.after.length ≤ 1000) :
    Calls Try.prog 51 #[.slice A n c] w fun e w' => e = .returned (.int .i64 (if validB l = true then 0 else 1)) ∧ Below w.heap.size w w' := by
  have V1 := Lib.hid (Valid_any A n c l w rA hm)
  clear hm
  go_enter Try.func51, Try.ntmps51
  cases hv : validB l with
  | true =>
    rw [hv] at V1
    clear hv
    go_wp2_with fail
    refine V1.out.mono ?_
    rintro e w1 ⟨rfl, hb1⟩
    go_wp2_with fail
    go_ret
    exact ⟨rfl, hb1⟩
  | false =>
    rw [hv] at V1
    clear hv
    go_wp2_with fail
    refine V1.out.mono ?_
    rintro e w1 ⟨rfl, hb1⟩
    go_wp2_with fail
    go_ret
    exact ⟨rfl, hb1⟩
end Go.Proofs.Ytnfcigbiebbjdaa
