/-
  Which numbers rise, which jobs can be done on time: as the document tells it, and as the program does.
  Conditions: the slices start at the heads of blocks and are not longer than 1000.
-/
import Derived.Test.YtnfcigbiebbjdaaDue2
namespace Go.Proofs.Ytnfcigbiebbjdaa
open Go.RowKit

set_option maxRecDepth 100000 in
set_option maxHeartbeats 2000000 in
theorem Rising_any (A : Option Addr) (m c n : Nat) (o : List Int) (w : World) (rA : RowH w A m o) (hm : m ≤ 1000) (hn : n ≤ 1000) :
    Calls Try.prog 45 #[.slice A m c, .int .i64 n] w (YesNo (RiseP n o) w) := by
  have HL := Lib.hid rA.1
  have H0 := Lib.hid (RiseTo.zero n o)
  go_enter Try.func45, Try.ntmps45
  go_wp2_with fail
  go_loopw [5] (fun i wr => ∃ k : Nat, k ≤ m ∧ i = .int .i64 k ∧ RiseTo n o k ∧ Below w.heap.size w wr) (fun i _ => m - (intOf i).toNat)
  case atStart => exact ⟨0, Nat.zero_le _, rfl, H0.out, Below.refl _ _⟩
  case round =>
    clear H0
    obtain ⟨k, hk, rfl, hR, hb⟩ := hrel
    by_cases hlt : k < m
    · have hbt : decide ((k : Int) < (m : Int)) = true := by simp; omega
      have hbt2 : (k : Int) < (m : Int) := by omega
      obtain ⟨g, rfl, hg, hc⟩ := (rA.later hb).at_ hlt
      have hok : o[k]? = some (o.getD k 0) := getD_get (by rw [HL.out]; exact hlt)
      have HK := Lib.hid hok
      clear hok
      generalize o.getD k 0 = x at *
      have M := fun w => Lib.hid (in_any x 0 ((n : Int) - 1) w)
      have HM := Lib.hid M
      clear M
      have hxl := later_cell (w := wr)
      have hwn : IntKind.i64.wrap ((n : Int) - 1) = (n : Int) - 1 := by rw [IntKind.wrap_i64]; omega
      by_cases hin : 0 ≤ x ∧ x ≤ (n : Int) - 1
      · rw [decide_eq_true hin.1, decide_eq_true hin.2] at HM
        obtain ⟨x0, x1⟩ := hin
        rcases Nat.eq_zero_or_pos k with hk0 | hk0
        · subst hk0
          have HN : Hid (RiseTo n o (0 + 1)) := hR.next HK.out x0 (by omega) (fun y h => by omega)
          have d0 : decide ((0 : Int) > 0) = false := by decide
          clear hR HK
          go_wp2_with fail
          refine wp_region_later (by kernel_rfl) (by kernel_rfl) ?_
          repeat (go_big_quiet_step ((go_at_call 52; exact later_same (HM.out _).out)))
          refine wpQuiet_nil ?_
          rintro w2 ⟨⟨_, hb2⟩, rfl⟩
          have hb3 := hb.trans (hb2.mono hb.size)
          clear hxl hc hb hb2 HM
          go_wp2_with fail
          go_roundw
          case rel => exact ⟨0 + 1, by omega, by go_num, HN.out, hb3⟩
          case measure => simp [intOf]; omega
        · obtain ⟨p, rfl⟩ : ∃ p, k = p + 1 := ⟨k - 1, by omega⟩
          obtain ⟨g', e1, _, hd⟩ := (rA.later hb).at_ (show p < m by omega)
          cases e1
          have hop : o[p]? = some (o.getD p 0) := getD_get (by rw [HL.out]; omega)
          have HP := Lib.hid hop
          clear hop
          generalize o.getD p 0 = y at *
          have d0 : decide (((p + 1 : Nat) : Int) > 0) = true := by rw [decide_eq_true_eq]; omega
          have hwk : IntKind.i64.wrap (((p + 1 : Nat) : Int) - 1) = (p : Int) := by rw [IntKind.wrap_i64]; omega
          by_cases hxy : x ≤ y
          · have d1 : decide (x ≤ y) = true := by simpa using hxy
            have HF : Hid (¬ RiseP n o) := fun h => by have := h.bad HK.out (by omega) HP.out; omega
            clear hR HK HP
            go_wp2_with fail
            refine wp_region_later (by kernel_rfl) (by kernel_rfl) ?_
            repeat (go_big_quiet_step ((go_at_call 52; exact later_same (HM.out _).out)))
            refine wpQuiet_nil ?_
            rintro w2 ⟨⟨_, hb2⟩, rfl⟩
            have hb3 := hb.trans (hb2.mono hb.size)
            clear hxl hc hd hb hb2 HM
            go_wp2_with fail
            go_ret
            exact ⟨false, rfl, ⟨fun h => (by cases h), fun h => absurd h HF.out⟩, hb3⟩
          · have d1 : decide (x ≤ y) = false := by simpa using hxy
            have HN : Hid (RiseTo n o (p + 1 + 1)) := hR.next HK.out x0 (by omega) (fun z _ hz => by
              rw [show p + 1 - 1 = p by omega, HP.out] at hz
              injection hz with hz
              omega)
            clear hR HK HP
            go_wp2_with fail
            refine wp_region_later (by kernel_rfl) (by kernel_rfl) ?_
            repeat (go_big_quiet_step ((go_at_call 52; exact later_same (HM.out _).out)))
            refine wpQuiet_nil ?_
            rintro w2 ⟨⟨_, hb2⟩, rfl⟩
            have hb3 := hb.trans (hb2.mono hb.size)
            clear hxl hc hd hb hb2 HM
            go_wp2_with fail
            go_roundw
            case rel => exact ⟨p + 1 + 1, by omega, by go_num, HN.out, hb3⟩
            case measure => simp [intOf]; omega
      · have hin2 : (decide (0 ≤ x) && decide (x ≤ (n : Int) - 1)) = false := by
          by_cases h1 : 0 ≤ x
          · have h2 : ¬ x ≤ (n : Int) - 1 := fun h2 => hin ⟨h1, h2⟩
            simp [h2]
          · simp [h1]
        rw [hin2] at HM
        have HF : Hid (¬ RiseP n o) := fun h => by have := h.1 x (List.mem_of_getElem? HK.out); exact hin ⟨this.1, by omega⟩
        clear hin hin2 hR HK
        go_wp2_with fail
        refine wp_region_later (by kernel_rfl) (by kernel_rfl) ?_
        repeat (go_big_quiet_step ((go_at_call 52; exact later_same (HM.out _).out)))
        refine wpQuiet_nil ?_
        rintro w2 ⟨⟨_, hb2⟩, rfl⟩
        have hb3 := hb.trans (hb2.mono hb.size)
        clear hxl hc hb hb2 HM
        go_wp2_with fail
        go_ret
        exact ⟨false, rfl, ⟨fun h => (by cases h), fun h => absurd h HF.out⟩, hb3⟩
    · obtain rfl : k = m := by omega
      have hbt : decide ((k : Int) < (k : Int)) = false := by simp
      have HT : Hid (RiseP n o) := by
        show RiseP n o
        have h := hR
        unfold RiseTo at h
        rwa [List.take_of_length_le (by rw [HL.out]; exact Nat.le_refl _)] at h
      clear hR
      go_wp2_with fail
      go_ret
      exact ⟨true, rfl, ⟨fun _ => HT.out, fun _ => rfl⟩, hb⟩

/-- Those among the first q that are due as early as d. -/
def dueBy (l : List Jb) (o : List Int) (d : Int) : List Int := o.filter fun k => decide ((jat l k).due ≤ d)
theorem dueBy_next {l : List Jb} {o : List Int} {d : Int} {q : Nat} {x : Int} (h : o[q]? = some x) : works l (dueBy l (o.take (q + 1)) d) = works l (dueBy l (o.take q) d) + if (jat l x).due ≤ d then (jat l x).work else 0 := by
  unfold dueBy
  rw [List.take_add_one, h, List.filter_append, works_append]
  congr 1
  by_cases e : (jat l x).due ≤ d
  · simp [e, works]
  · simp [e, works]
def AbleTo (l : List Jb) (o : List Int) (k : Nat) : Prop := ∀ i ∈ o.take k, works l (dueBy l o (jat l i).due) ≤ (jat l i).due
theorem AbleTo.zero (l : List Jb) (o : List Int) : AbleTo l o 0 := fun i hi => by simp at hi
theorem AbleTo.next {l : List Jb} {o : List Int} {k : Nat} {x : Int} (h : AbleTo l o k) (hx : o[k]? = some x) (hle : works l (dueBy l o (jat l x).due) ≤ (jat l x).due) : AbleTo l o (k + 1) := fun z hz => by
  rw [List.take_add_one, hx] at hz
  rcases List.mem_append.1 hz with hz | hz
  · exact h z hz
  · obtain rfl : z = x := by simpa using hz
    exact hle
theorem ableT_zero {l : List Jb} {o : List Int} : AbleT l 0 o ↔ ∀ i ∈ o, works l (dueBy l o (jat l i).due) ≤ (jat l i).due := by
  unfold AbleT dueBy
  simp only [Int.zero_add]

set_option maxRecDepth 100000 in
set_option maxHeartbeats 4000000 in
theorem rAble_any (A O : Option Addr) (n c m e : Nat) (l : List Jb) (o : List Int) (W : World) (rA : JobsH W A n l) (rO : RowH W O m o) (ht : ∀ (k : Nat) (x : Jb), l[k]? = some x → Calm x) (ho : ∀ x ∈ o, 0 ≤ x ∧ x < (n : Int)) (hm : m ≤ 100) :
    Calls Try.prog 46 #[.slice A n c, .slice O m e] W (YesNo (AbleT l 0 o) W) := by
  have HT := Lib.hid ht
  have HO := Lib.hid ho
  have HL := Lib.hid rO.1
  have H0 := Lib.hid (AbleTo.zero l o)
  clear ht ho
  go_enter Try.func46, Try.ntmps46
  go_wp2_with fail
  go_loopw [5] (fun i wr => ∃ k : Nat, k ≤ m ∧ i = .int .i64 k ∧ AbleTo l o k ∧ Below W.heap.size W wr) (fun i _ => m - (intOf i).toNat)
  case atStart => exact ⟨0, Nat.zero_le _, rfl, H0.out, Below.refl _ _⟩
  case round =>
    clear H0
    obtain ⟨k, hk, rfl, hA, hb⟩ := hrel
    by_cases hlt : k < m
    · have hbt : decide ((k : Int) < (m : Int)) = true := by simp; omega
      have hbt2 : (k : Int) < (m : Int) := by omega
      have hok : o[k]? = some (o.getD k 0) := getD_get (by rw [HL.out]; exact hlt)
      have hx := HO.out _ (List.mem_of_getElem? hok)
      have HK := Lib.hid hok
      have HKx : Hid (∀ wr : World, Below W.heap.size W wr → ∃ g, O = some ⟨g, 0, none⟩ ∧ g < wr.heap.size ∧ wr.cell? ⟨g, k, none⟩ = some (.int .i64 (o.getD k 0))) := fun wr hb => (rO.later hb).at_ hlt
      clear hok
      generalize o.getD k 0 = x at *
      obtain ⟨x0, x1⟩ := hx
      obtain ⟨i, rfl⟩ := Int.eq_ofNat_of_zero_le x0
      have hi : i < n := by omega
      have hii : (i : Int) < (n : Int) := by omega
      obtain ⟨D, hD⟩ : ∃ D, D = (jat l i).due := ⟨_, rfl⟩
      have HD := Lib.hid hD
      have hDb : 0 ≤ D ∧ D ≤ 640000 := by
        obtain ⟨_, _, _, _, _, _, hj, _⟩ := rA.both hb hi
        have := HT.out i _ hj
        rw [hD]
        exact ⟨this.2.2.1, this.2.2.2.1⟩
      obtain ⟨D0, D1⟩ := hDb
      have HJ : Hid (0 = works l (dueBy l (o.take 0) D)) := by show _ = _; simp [dueBy, works]
      have HA := Lib.hid hA
      clear x0 hD hA
      go_wp2_with fail
      go_loopw [6, 7] (fun s i2 wr => ∃ (q : Nat) (s0 : Int), q ≤ m ∧ i2 = .int .i64 q ∧ s = .int .i64 s0 ∧ Hid (s0 = works l (dueBy l (o.take q) D)) ∧ 0 ≤ s0 ∧ s0 ≤ 10000 * q ∧ Below W.heap.size W wr) (fun _ i _ => m - (intOf i).toNat)
      case atStart => exact ⟨0, 0, Nat.zero_le _, rfl, rfl, HJ, Int.le_refl _, by omega, hb⟩
      case round =>
        clear HJ hb
        obtain ⟨q, s0, hq, rfl, rfl, hs, s1, s2, hb⟩ := hrel
        obtain ⟨go, e1, hgo, co⟩ := HKx.out _ hb
        subst e1
        obtain ⟨g, B, mB, cB, e1, hg, hj, c0, c1, c2, c3, c4, _⟩ := rA.both hb hi
        subst e1
        rw [← HD.out] at c2
        clear c0 c1 c3 c4 hj
        by_cases hqm : q < m
        · have ubt : decide ((q : Int) < (m : Int)) = true := by simp; omega
          have ubt2 : (q : Int) < (m : Int) := by omega
          have hoq : o[q]? = some (o.getD q 0) := getD_get (by rw [HL.out]; exact hqm)
          have hy := HO.out _ (List.mem_of_getElem? hoq)
          obtain ⟨go', e1, _, cq⟩ := (rO.later hb).at_ hqm
          cases e1
          have HQ := Lib.hid hoq
          clear hoq
          generalize o.getD q 0 = y at *
          obtain ⟨y0, y1⟩ := hy
          obtain ⟨t, rfl⟩ := Int.eq_ofNat_of_zero_le y0
          have hT : t < n := by omega
          have hTi : (t : Int) < (n : Int) := by omega
          obtain ⟨g', B', mB', cB', e1, _, hj', d0, d1, d2, d3, d4, _⟩ := rA.both hb hT
          cases e1
          have hcm := HT.out t _ hj'
          obtain ⟨w0, w1, _⟩ := hcm
          have hdn := Lib.hid (dueBy_next (l := l) (d := D) HQ.out)
          have hxl := later_cell (w := wr)
          clear hj' y0 HQ d1 d3 d4
          generalize jat l t = j at *
          by_cases hle : j.due ≤ D
          · have HN : Hid (s0 + j.work = works l (dueBy l (o.take (q + 1)) D)) := by show _ = _; rw [hdn.out, if_pos hle, hs.out]
            have u1 : decide (j.due ≤ D) = true := by simpa using hle
            clear hdn hs
            go_wp2_with fail
            refine wp_region_later (by kernel_rfl) (by kernel_rfl) ?_
            repeat (go_big_quiet_step (fail))
            refine wpQuiet_nil ?_
            rintro w3 ⟨⟨_, hb3⟩, rfl⟩
            have hb4 := hb.trans (hb3.mono hb.size)
            have cq3 := (hb3.cell (p := ⟨go, q, none⟩) hgo).trans cq
            have d03 := (hb3.cell (p := ⟨g, t * 5, none⟩) hg).trans d0
            have hgo3 := Nat.lt_of_lt_of_le hgo hb3.size
            have hg3 := Nat.lt_of_lt_of_le hg hb3.size
            clear hxl hb hb3 co cq c2 d0 d2 hgo hg
            go_wp2_with fail
            go_roundw
            case rel => exact ⟨q + 1, s0 + j.work, by omega, by go_num, rfl, HN, by omega, by omega, hb4⟩
            case measure => simp [intOf]; omega
          · have HN : Hid (s0 = works l (dueBy l (o.take (q + 1)) D)) := by show _ = _; rw [hdn.out, if_neg hle, ← hs.out, Int.add_zero]
            have u1 : decide (j.due ≤ D) = false := by simpa using hle
            clear hdn hs
            go_wp2_with fail
            refine wp_region_later (by kernel_rfl) (by kernel_rfl) ?_
            repeat (go_big_quiet_step (fail))
            refine wpQuiet_nil ?_
            rintro w3 ⟨⟨_, hb3⟩, rfl⟩
            have hb4 := hb.trans (hb3.mono hb.size)
            clear hxl hb hb3 co cq c2 d0 d2 hgo hg
            go_wp2_with fail
            go_roundw
            case rel => exact ⟨q + 1, s0, by omega, by go_num, rfl, HN, by omega, by omega, hb4⟩
            case measure => simp [intOf]; omega
        · obtain rfl : q = m := by omega
          have ubt : decide ((q : Int) < (q : Int)) = false := by simp
          have HS : Hid (s0 = works l (dueBy l o (jat l i).due)) := by
            show _ = _
            rw [hs.out, List.take_of_length_le (by rw [HL.out]; exact Nat.le_refl _), HD.out]
          clear hs
          by_cases hgt : s0 > D
          · have u1 : decide (s0 > D) = true := by simpa using hgt
            have HF : Hid (¬ AbleT l 0 o) := fun h => by
              have := ableT_zero.1 h _ (List.mem_of_getElem? HK.out)
              rw [← HS.out, ← HD.out] at this
              omega
            clear HS
            go_wp2_with fail
            go_ret
            exact ⟨false, rfl, ⟨fun h => (by cases h), fun h => absurd h HF.out⟩, hb⟩
          · have u1 : decide (s0 > D) = false := by simpa using hgt
            have u2 : s0 ≤ D := by omega
            have HN : Hid (AbleTo l o (k + 1)) := HA.out.next HK.out (by rw [← HS.out, ← HD.out]; exact u2)
            clear HS
            go_wp2_with fail
            go_roundw
            case rel => exact ⟨k + 1, by omega, by go_num, HN.out, hb⟩
            case measure => simp [intOf]; omega
    · obtain rfl : k = m := by omega
      have hbt : decide ((k : Int) < (k : Int)) = false := by simp
      have HT2 : Hid (AbleT l 0 o) := ableT_zero.2 fun i hi => hA i (by rw [List.take_of_length_le (by rw [HL.out]; exact Nat.le_refl _)]; exact hi)
      clear hA
      go_wp2_with fail
      go_ret
      exact ⟨true, rfl, ⟨fun _ => HT2.out, fun _ => rfl⟩, hb⟩

/-- What the program's Able returns. -/
def QAbleR (l : List Jb) (o : List Int) (n : Nat) (w : World) (e : Ending) (w' : World) : Prop :=
  ∃ (b : Bool) (r : Int), e = .returned (.tuple #[.bool b, .int .i64 r]) ∧ (¬ RiseP n o ∧ b = false ∧ r = 2 ∨ RiseP n o ∧ (b = true ↔ AbleT l 0 o) ∧ r = 0) ∧ Below w.heap.size w w'
theorem ableF_drop {l : List Jb} {t : Int} {o : List Int} {k : Nat} {x : Int} (hx : o[k]? = some x) : AbleF l t (o.drop k) ↔ t + (jat l x).work ≤ (jat l x).due ∧ AbleF l (t + (jat l x).work) (o.drop (k + 1)) := by
  rw [drop_step hx]
  rfl
set_option maxRecDepth 100000 in
set_option maxHeartbeats 4000000 in
theorem qAble_any (A O : Option Addr) (n c m e : Nat) (l : List Jb) (o : List Int) (w : World) (rA : JobsH w A n l) (rO : RowH w O m o) (hv : validB l = true) (hm : m ≤ 100) :
    Calls Try.prog 49 #[.slice A n c, .slice O m e] w (QAbleR l o n w) := by
  have hn : n ≤ 64 := by
    have h := hv
    unfold validB at h
    simp only [Bool.and_eq_true, decide_eq_true_eq] at h
    rw [← rA.1]; exact h.1
  have HC : Hid (∀ (k : Nat) (x : Jb), l[k]? = some x → Calm x) := fun k x h => validB_calm hv h
  have HF := Lib.hid (validB_fair hv)
  have M1 := Lib.hid (Check_yes A n c l w rA hv)
  clear hv
  go_enter Try.func49, Try.ntmps49
  go_wp2_with fail
  refine M1.out.mono ?_
  rintro e1 w1 ⟨rfl, hb1⟩
  have rA1 := rA.later hb1
  have rO1 := rO.later hb1
  have R1 := Lib.hid (rising_any O m e n o w1 rO1 (by omega))
  clear M1
  by_cases hr : riseB n (-1) o = true
  case neg =>
    have HNR : Hid (¬ RiseP n o) := fun h => hr (riseB_riseP.2 h)
    rw [Bool.not_eq_true] at hr
    rw [hr] at R1
    clear hr
    go_wp2_with fail
    refine R1.out.mono ?_
    rintro e2 w' ⟨rfl, rfl⟩
    go_wp2_with fail
    go_ret2
    exact ⟨false, 2, rfl, .inl ⟨HNR.out, rfl, rfl⟩, hb1⟩
  case pos =>
    have HRP := Lib.hid (riseB_riseP.1 hr)
    rw [hr] at R1
    have B1 := Lib.hid (byDue_any A O n c m e l o w1 rA1 rO1 HRP.out (by omega))
    clear hr
    go_wp2_with fail
    refine R1.out.mono ?_
    rintro e2 w' ⟨rfl, rfl⟩
    clear R1
    go_wp2_with fail
    refine B1.out.mono ?_
    rintro e3 w2 ⟨R, c2, d, rfl, hP, hS, hR, hb2⟩
    have HIff : Hid (AbleF l 0 (d.drop 0) ↔ AbleT l 0 o) := by
      show _ ↔ _
      rw [List.drop_zero, able_iff l HF.out d 0 (hS.imp due_le), able_perm hP]
    have HO : Hid (∀ x ∈ d, 0 ≤ x ∧ x < (n : Int)) := fun x hx => HRP.out.1 x (hP.mem_iff.1 hx)
    have HL := Lib.hid hR.1
    have hw2 := hb1.trans (hb2.mono hb1.size)
    clear B1 hP hS rA1 rO1 rO hb1 hb2
    go_wp2_with fail
    go_loopw [7, 24] (fun s i wr => ∃ (k : Nat) (t : Int), k ≤ m ∧ i = .int .i64 k ∧ s = .int .i64 t ∧ 0 ≤ t ∧ t ≤ 10000 * k ∧ Hid (AbleF l t (d.drop k) ↔ AbleT l 0 o) ∧ w2 = wr) (fun _ i _ => m - (intOf i).toNat)
    case atStart => exact ⟨0, 0, Nat.zero_le _, rfl, rfl, Int.le_refl _, by omega, HIff, rfl⟩
    case round =>
      clear HIff
      obtain ⟨k, t, hk, rfl, rfl, t0, t1, hI, rfl⟩ := hrel
      by_cases hlt : k < m
      · have hbt : decide ((k : Int) < (m : Int)) = true := by simp; omega
        have hbt2 : (k : Int) < (m : Int) := by omega
        obtain ⟨go, rfl, hgo, co⟩ := hR.at_ hlt
        have hok : d[k]? = some (d.getD k 0) := getD_get (by rw [HL.out]; exact hlt)
        have hx := HO.out _ (List.mem_of_getElem? hok)
        have hst := Lib.hid (ableF_drop (l := l) (t := t) hok)
        clear hok
        generalize d.getD k 0 = x at *
        obtain ⟨x0, x1⟩ := hx
        obtain ⟨i, rfl⟩ := Int.eq_ofNat_of_zero_le x0
        have hi : i < n := by omega
        have hii : (i : Int) < (n : Int) := by omega
        obtain ⟨g, B, mB, cB, e1, hg, hj, c0, c1, c2, c3, c4, _⟩ := rA.both hw2 hi
        subst e1
        have hcm := HC.out i _ hj
        obtain ⟨w0, w1, d0, d1, _⟩ := hcm
        clear hj x0 c1 c3 c4
        generalize jat l i = j at *
        by_cases hgt : t + j.work ≤ j.due
        · have u1 : decide (t + j.work > j.due) = false := by simp; omega
          have HN : Hid (AbleF l (t + j.work) (d.drop (k + 1)) ↔ AbleT l 0 o) := by
            show _ ↔ _
            rw [← hI.out, hst.out]
            exact ⟨fun h => ⟨hgt, h⟩, fun h => h.2⟩
          clear hI hst
          go_wp2_with fail
          go_roundw
          case rel => exact ⟨k + 1, t + j.work, by omega, by go_num, rfl, by omega, by omega, HN, trivial⟩
          case measure => simp [intOf]; omega
        · have u1 : decide (t + j.work > j.due) = true := by simp; omega
          have u2 : j.due < t + j.work := by omega
          have HN : Hid (¬ AbleT l 0 o) := by
            show ¬ _
            rw [← hI.out, hst.out]
            exact fun h => hgt h.1
          clear hI hst
          go_wp2_with fail
          go_ret2
          exact ⟨false, 0, rfl, .inr ⟨HRP.out, ⟨fun h => (by cases h), fun h => absurd h HN.out⟩, rfl⟩, hw2⟩
      · obtain rfl : k = m := by omega
        have hbt : decide ((k : Int) < (k : Int)) = false := by simp
        have HN : Hid (AbleT l 0 o) := by
          show AbleT l 0 o
          rw [← hI.out, List.drop_of_length_le (by rw [HL.out]; exact Nat.le_refl _)]
          trivial
        clear hI
        go_wp2_with fail
        go_ret2
        exact ⟨true, 0, rfl, .inr ⟨HRP.out, ⟨fun _ => HN.out, fun _ => rfl⟩, rfl⟩, hw2⟩
end Go.Proofs.Ytnfcigbiebbjdaa
