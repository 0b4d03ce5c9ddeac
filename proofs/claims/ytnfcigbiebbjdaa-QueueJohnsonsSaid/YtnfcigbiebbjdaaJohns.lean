/-
  Times on two benches: which are valid, as the program and as the document tell it; Johnson refuses those that are not; the length of any order.
  Conditions: the slices start at the heads of blocks and are not longer than 1000.
-/
import Derived.Test.YtnfcigbiebbjdaaOrdA
namespace Go.Proofs.Ytnfcigbiebbjdaa
open Go.RowKit

def InT (l : List Int) : Prop := ∀ x ∈ l, 0 ≤ x ∧ x ≤ 10000
def TimesP (f s : List Int) : Prop := f.length = s.length ∧ f.length ≤ 64 ∧ InT f ∧ InT s
theorem InT.small {l : List Int} (h : InT l) : Small l := fun i => by
  unfold iat
  rw [List.getD_eq_getElem?_getD]
  cases e : l[i.toNat]? with
  | none => simp
  | some x => exact h x (List.mem_of_getElem? e)
/-- The first k are in range. -/
def InTo (l : List Int) (k : Nat) : Prop := ∀ x ∈ l.take k, 0 ≤ x ∧ x ≤ 10000
theorem InTo.zero (l : List Int) : InTo l 0 := fun x hx => by simp at hx
theorem InTo.next {l : List Int} {k : Nat} {x : Int} (h : InTo l k) (hx : l[k]? = some x) (h0 : 0 ≤ x) (h1 : x ≤ 10000) : InTo l (k + 1) := fun z hz => by
  rw [List.take_add_one, hx] at hz
  rcases List.mem_append.1 hz with hz | hz
  · exact h z hz
  · obtain rfl : z = x := by simpa using hz
    exact ⟨h0, h1⟩
theorem InTo.done {l : List Int} {k : Nat} (h : InTo l k) (hk : l.length ≤ k) : InT l := by
  unfold InTo at h
  rwa [List.take_of_length_le hk] at h

set_option maxRecDepth 100000 in
set_option maxHeartbeats 2000000 in
theorem benches_any (A B : Option Addr) (n m c d : Nat) (f s : List Int) (w : World) (rA : RowH w A n f) (rB : RowH w B m s) (hn : n ≤ 100) (hm : m ≤ 100) :
    Calls Try.prog 58 #[.slice A n c, .slice B m d] w (YesNo (TimesP f s) w) := by
  have hb0 : Below w.heap.size w (w.alloc (.cells #[.slice A n c, .slice B m d] 23)) := (Below.refl _ _).alloc (Nat.le_refl _) _
  have M := Lib.hid (concat_any A B n c m d w.heap.size f s _ (Blk.new w 23 #[.slice A n c, .slice B m d]) (rA.later hb0) (rB.later hb0) (by omega) (by omega))
  have hlA := rA.1
  have hlB := rB.1
  have HLA := Lib.hid hlA
  have HLB := Lib.hid hlB
  clear rA rB
  go_enter Try.func58, Try.ntmps58
  go_wp2_with fail
  refine M.out.mono ?_
  rintro e w1 ⟨v, rfl, hown, hb1⟩
  simp only [if_neg (show ¬ (2 : Nat) = 0 by omega), if_neg (show ¬ (2 : Nat) = 1 by omega), hlA, hlB] at hown
  obtain ⟨A', c', rfl⟩ := own_slice hown
  have hR := own_rowH hown
  have hb2 := hb0.trans (hb1.mono (by simp))
  obtain ⟨L, hL⟩ : ∃ L, L = f ++ s := ⟨_, rfl⟩
  rw [← hL] at hR
  have HL := Lib.hid hL
  clear hown hb0 hb1 M hL hlA hlB
  obtain ⟨N, hN⟩ : ∃ N, N = n + m := ⟨_, rfl⟩
  rw [← hN] at hR ⊢
  have hN1 : N ≤ 200 := by omega
  clear hN
  have H0 := Lib.hid (InTo.zero L)
  go_wp2_with fail
  go_loopw [12] (fun i wr => ∃ k : Nat, k ≤ N ∧ i = .int .i64 k ∧ InTo L k ∧ w1 = wr) (fun i _ => N - (intOf i).toNat)
  case atStart => exact ⟨0, Nat.zero_le _, rfl, H0.out, rfl⟩
  case round =>
    clear H0
    obtain ⟨k, hk, rfl, hI, rfl⟩ := hrel
    by_cases hlt : k < N
    · have hbt : decide ((k : Int) < (N : Int)) = true := by simp; omega
      have hbt2 : (k : Int) < (N : Int) := by omega
      obtain ⟨g, rfl, hg, hc⟩ := hR.at_ hlt
      have hx := getD_get (o := L) (k := k) (by rw [hR.1]; exact hlt)
      have HX := Lib.hid hx
      clear hx
      generalize L.getD k 0 = x at *
      by_cases hin : 0 ≤ x ∧ x ≤ 10000
      · obtain ⟨x0, x1⟩ := hin
        have d1 : decide (x < 0) = false := by simp; omega
        have d2 : decide (x > 10000) = false := by simp; omega
        have d3 : ¬ (10000 : Int) < x := by omega
        have d4 : ¬ x < 0 := by omega
        have HN := Lib.hid (hI.next HX.out x0 x1)
        clear HX hI
        go_wp2_with fail
        go_roundw
        case rel => exact ⟨k + 1, by omega, by go_num, HN.out, trivial⟩
        case measure => simp [intOf]; omega
      · have HF : Hid (¬ TimesP f s) := by
          intro h
          have hm := List.mem_of_getElem? HX.out
          rw [HL.out] at hm
          rcases List.mem_append.1 hm with hm | hm
          · exact hin (h.2.2.1 x hm)
          · exact hin (h.2.2.2 x hm)
        clear HX hI
        by_cases d0 : x < 0
        · have d1 : decide (x < 0) = true := by simpa using d0
          go_wp2_with fail
          go_ret
          exact ⟨false, rfl, ⟨fun h => (by cases h), fun h => absurd h HF.out⟩, hb2⟩
        · have d1 : decide (x < 0) = false := by simpa using d0
          have d2 : decide (x > 10000) = true := by simp; omega
          have d3 : (10000 : Int) < x := by omega
          go_wp2_with fail
          go_ret
          exact ⟨false, rfl, ⟨fun h => (by cases h), fun h => absurd h HF.out⟩, hb2⟩
    · obtain rfl : k = N := by omega
      have hbt : decide ((k : Int) < (k : Int)) = false := by simp
      have hLs : L.length ≤ k := by rw [hR.1]; exact Nat.le_refl _
      have hall := hI.done hLs
      have HA : Hid (InT f ∧ InT s) := by
        rw [HL.out] at hall
        exact ⟨fun x hx => hall x (List.mem_append.2 (.inl hx)), fun x hx => hall x (List.mem_append.2 (.inr hx))⟩
      clear hI hall hLs
      by_cases hnm : n = m
      · subst hnm
        have d1 : ((n : Int) == (n : Int)) = true := by simp
        by_cases h64 : n ≤ 64
        · have d2 : decide ((n : Int) ≤ 64) = true := by simp; omega
          have d3 : (n : Int) ≤ 64 := by omega
          have HT : Hid (TimesP f s) := ⟨HLA.out.trans HLB.out.symm, by rw [HLA.out]; exact h64, HA.out.1, HA.out.2⟩
          go_wp2_with fail
          go_ret
          exact ⟨true, rfl, ⟨fun _ => HT.out, fun _ => rfl⟩, hb2⟩
        · have d2 : decide ((n : Int) ≤ 64) = false := by simp; omega
          have d3 : ¬ (n : Int) ≤ 64 := by omega
          have HF : Hid (¬ TimesP f s) := fun h => by have := h.2.1; rw [HLA.out] at this; omega
          go_wp2_with fail
          go_ret
          exact ⟨false, rfl, ⟨fun h => (by cases h), fun h => absurd h HF.out⟩, hb2⟩
      · have d1 : ((n : Int) == (m : Int)) = false := by simp; omega
        have HF : Hid (¬ TimesP f s) := fun h => by have := h.1; rw [HLA.out, HLB.out] at this; omega
        go_wp2_with fail
        go_ret
        exact ⟨false, rfl, ⟨fun h => (by cases h), fun h => absurd h HF.out⟩, hb2⟩

set_option maxRecDepth 100000 in
set_option maxHeartbeats 2000000 in
theorem Times_any (A B : Option Addr) (n m c d : Nat) (f s : List Int) (w : World) (rA : RowH w A n f) (rB : RowH w B m s) (hn : n ≤ 100) (hm : m ≤ 100) :
    Calls Try.prog 42 #[.slice A n c, .slice B m d] w (YesNo (TimesP f s) w) := by
  have HLA := Lib.hid rA.1
  have HLB := Lib.hid rB.1
  by_cases hnm : n = m
  case neg =>
    have d1 : ((n : Int) != (m : Int)) = true := by simp; omega
    have HF : Hid (¬ TimesP f s) := fun h => by have := h.1; rw [HLA.out, HLB.out] at this; omega
    go_enter Try.func42, Try.ntmps42
    go_wp2_with fail
    go_ret
    exact ⟨false, rfl, ⟨fun h => (by cases h), fun h => absurd h HF.out⟩, Below.refl _ _⟩
  case pos =>
    subst hnm
    have d1 : ((n : Int) != (n : Int)) = false := by simp
    by_cases h64 : n ≤ 64
    case neg =>
      have d2 : decide ((n : Int) > 64) = true := by simp; omega
      have d3 : (64 : Int) < (n : Int) := by omega
      have HF : Hid (¬ TimesP f s) := fun h => by have := h.2.1; rw [HLA.out] at this; omega
      go_enter Try.func42, Try.ntmps42
      go_wp2_with fail
      go_ret
      exact ⟨false, rfl, ⟨fun h => (by cases h), fun h => absurd h HF.out⟩, Below.refl _ _⟩
    case pos =>
      have d2 : decide ((n : Int) > 64) = false := by simp; omega
      have d3 : ¬ (64 : Int) < (n : Int) := by omega
      have H0 := Lib.hid (InTo.zero f)
      have H1 := Lib.hid (InTo.zero s)
      go_enter Try.func42, Try.ntmps42
      go_wp2_with fail
      go_loopw [5] (fun i wr => ∃ k : Nat, k ≤ n ∧ i = .int .i64 k ∧ InTo f k ∧ InTo s k ∧ w = wr) (fun i _ => n - (intOf i).toNat)
      case atStart => exact ⟨0, Nat.zero_le _, rfl, H0.out, H1.out, rfl⟩
      case round =>
        clear H0 H1
        obtain ⟨k, hk, rfl, hF, hS, rfl⟩ := hrel
        by_cases hlt : k < n
        · have hbt : decide ((k : Int) < (n : Int)) = true := by simp; omega
          have hbt2 : (k : Int) < (n : Int) := by omega
          obtain ⟨g, rfl, hg, hc⟩ := rA.at_ hlt
          obtain ⟨g', rfl, hg', hc'⟩ := rB.at_ hlt
          have hx := getD_get (o := f) (k := k) (by rw [rA.1]; exact hlt)
          have hy := getD_get (o := s) (k := k) (by rw [rB.1]; exact hlt)
          have HX := Lib.hid hx
          have HY := Lib.hid hy
          clear hx hy
          generalize f.getD k 0 = x at *
          generalize s.getD k 0 = y at *
          have M1 := fun w => Lib.hid (in_any x 0 10000 w)
          have M2 := fun w => Lib.hid (in_any y 0 10000 w)
          have HM1 := Lib.hid M1
          have HM2 := Lib.hid M2
          clear M1 M2
          by_cases hin : 0 ≤ x ∧ x ≤ 10000
          · rw [decide_eq_true hin.1, decide_eq_true hin.2] at HM1
            have HN1 := Lib.hid (hF.next HX.out hin.1 hin.2)
            clear HX hF hin
            by_cases hin : 0 ≤ y ∧ y ≤ 10000
            · rw [decide_eq_true hin.1, decide_eq_true hin.2] at HM2
              have HN2 := Lib.hid (hS.next HY.out hin.1 hin.2)
              clear HY hS hin
              go_wp2_with fail
              refine (HM1.out _).out.mono ?_
              rintro e w' ⟨rfl, rfl⟩
              clear HM1
              go_wp2_with fail
              refine (HM2.out _).out.mono ?_
              rintro e w' ⟨rfl, rfl⟩
              clear HM2
              go_wp2_with fail
              go_roundw
              case rel => exact ⟨k + 1, by omega, by go_num, HN1.out, HN2.out, trivial⟩
              case measure => simp [intOf]; omega
            · have HF : Hid (¬ TimesP f s) := fun h => hin (h.2.2.2 y (List.mem_of_getElem? HY.out))
              have hin2 : (decide (0 ≤ y) && decide (y ≤ 10000)) = false := by
                by_cases h1 : 0 ≤ y
                · have h2 : ¬ y ≤ 10000 := fun h2 => hin ⟨h1, h2⟩
                  simp [h2]
                · simp [h1]
              rw [hin2] at HM2
              clear HY hS hin hin2
              go_wp2_with fail
              refine (HM1.out _).out.mono ?_
              rintro e w' ⟨rfl, rfl⟩
              clear HM1
              go_wp2_with fail
              refine (HM2.out _).out.mono ?_
              rintro e w' ⟨rfl, rfl⟩
              clear HM2
              go_wp2_with fail
              go_ret
              exact ⟨false, rfl, ⟨fun h => (by cases h), fun h => absurd h HF.out⟩, Below.refl _ _⟩
          · have HF : Hid (¬ TimesP f s) := fun h => hin (h.2.2.1 x (List.mem_of_getElem? HX.out))
            have hin2 : (decide (0 ≤ x) && decide (x ≤ 10000)) = false := by
              by_cases h1 : 0 ≤ x
              · have h2 : ¬ x ≤ 10000 := fun h2 => hin ⟨h1, h2⟩
                simp [h2]
              · simp [h1]
            rw [hin2] at HM1
            clear HX hF hin hin2 HM2
            go_wp2_with fail
            refine (HM1.out _).out.mono ?_
            rintro e w' ⟨rfl, rfl⟩
            clear HM1
            go_wp2_with fail
            go_ret
            exact ⟨false, rfl, ⟨fun h => (by cases h), fun h => absurd h HF.out⟩, Below.refl _ _⟩
        · obtain rfl : k = n := by omega
          have hbt : decide ((k : Int) < (k : Int)) = false := by simp
          have HT : Hid (TimesP f s) := ⟨HLA.out.trans HLB.out.symm, by rw [HLA.out]; exact h64, hF.done (by rw [HLA.out]; exact Nat.le_refl _), hS.done (by rw [HLB.out]; exact Nat.le_refl _)⟩
          clear hF hS
          go_wp2_with fail
          go_ret
          exact ⟨true, rfl, ⟨fun _ => HT.out, fun _ => rfl⟩, Below.refl _ _⟩

set_option maxRecDepth 100000 in
theorem Johnson_no (A B : Option Addr) (n m c d : Nat) (f s : List Int) (w : World) (rA : RowH w A n f) (rB : RowH w B m s) (hn : n ≤ 100) (hm : m ≤ 100) (hT : ¬ TimesP f s) :
    Calls Try.prog 25 #[.slice A n c, .slice B m d] w fun e w' => e = .returned (.tuple #[.slice none 0 0, .int .i64 0, .int .i64 1]) ∧ Below w.heap.size w w' := by
  have hw2 : Below w.heap.size w ((w.alloc (.cells #[.slice A n c] 23)).alloc (.cells #[.slice B m d] 23)) := ((Below.refl _ _).alloc (Nat.le_refl _) _).alloc (by simp) _
  have k2 : Blk ((w.alloc (.cells #[.slice A n c] 23)).alloc (.cells #[.slice B m d] 23)) w.heap.size 23 #[.slice A n c] := (Blk.new w 23 #[.slice A n c]).alloc _
  have k3 : Blk ((w.alloc (.cells #[.slice A n c] 23)).alloc (.cells #[.slice B m d] 23)) (w.heap.size + 1) 23 #[.slice B m d] := by
    have h := Blk.new (w.alloc (.cells #[.slice A n c] 23)) 23 #[.slice B m d]
    rwa [World.size_alloc] at h
  have M1 := Lib.hid (benches_any A B n m c d f s _ (rA.later hw2) (rB.later hw2) hn hm)
  have x2 := k2.cell
  have x3 := k3.cell
  have HT := Lib.hid hT
  go_enter Try.func25, Try.ntmps25
  go_wp2_with fail
  refine M1.out.mono ?_
  rintro e w1 ⟨b, rfl, hbt, hb1⟩
  obtain rfl : b = false := by
    cases b with
    | false => rfl
    | true => exact absurd (hbt.1 rfl) HT.out
  have hw1 := hw2.trans (hb1.mono (by simp; omega))
  clear x2 x3 k2 k3 hbt
  go_wp2_with fail
  (try simp only [Exit.inBlock, Exit.then]); refine bodyPost_ret (results_tmp3 rfl _ _ _) rfl ?_
  exact ⟨rfl, hw1⟩

/-- What Length returns. -/
def LenR (f s o : List Int) (n : Nat) (w : World) (e : Ending) (w' : World) : Prop :=
  ∃ a r, e = .returned (.tuple #[.int .i64 a, .int .i64 r]) ∧ (¬ TimesP f s ∧ a = 0 ∧ r = 1 ∨ TimesP f s ∧ ¬ isOrd n o ∧ a = 0 ∧ r = 2 ∨ TimesP f s ∧ isOrd n o ∧ a = lenF f s 0 0 o ∧ r = 0) ∧ Below w.heap.size w w'
set_option maxRecDepth 100000 in
theorem qLength_any (A B O : Option Addr) (n m p c d q : Nat) (f s o : List Int) (w : World) (rA : RowH w A n f) (rB : RowH w B m s) (rO : RowH w O p o) (hn : n ≤ 100) (hm : m ≤ 100) (hp : p ≤ 100) :
    Calls Try.prog 41 #[.slice A n c, .slice B m d, .slice O p q] w (LenR f s o n w) := by
  have M1 := Lib.hid (benches_any A B n m c d f s w rA rB hn hm)
  go_enter Try.func41, Try.ntmps41
  go_wp2_with fail
  refine M1.out.mono ?_
  rintro e w1 ⟨b, rfl, hbt, hb1⟩
  have HB := Lib.hid hbt
  have rA1 := rA.later hb1
  have rB1 := rB.later hb1
  have rO1 := rO.later hb1
  clear M1 hbt
  cases b with
  | false =>
    have HF : Hid (¬ TimesP f s) := fun h => by have := HB.out.2 h; cases this
    clear HB
    go_wp2_with fail
    go_ret2
    exact ⟨0, 1, rfl, .inl ⟨HF.out, rfl, rfl⟩, hb1⟩
  | true =>
    have HT : Hid (TimesP f s) := HB.out.1 rfl
    have M2 := Lib.hid (whole_any O p q n o w1 rO1 (by omega) (by omega))
    clear HB
    go_wp2_with fail
    refine M2.out.mono ?_
    rintro e w2 ⟨b, rfl, hbt, hb2⟩
    have HB := Lib.hid hbt
    have rA2 := rA1.later hb2
    have rB2 := rB1.later hb2
    have rO2 := rO1.later hb2
    have hw2 := hb1.trans (hb2.mono hb1.size)
    clear M2 hbt rA1 rB1 rO1 hb1 hb2
    cases b with
    | false =>
      have HF : Hid (¬ isOrd n o) := fun h => by have := HB.out.2 h; cases this
      clear HB
      go_wp2_with fail
      go_ret2
      exact ⟨0, 2, rfl, .inr (.inl ⟨HT.out, HF.out, rfl, rfl⟩), hw2⟩
    | true =>
      have HO : Hid (isOrd n o) := HB.out.1 rfl
      have hnm : m = n := by have h1 := HT.out.1; have h2 := rA.1; have h3 := rB.1; omega
      subst hnm
      have M3 := Lib.hid (length_any A B O m c d p q f s o w2 rA2 rB2 rO2 HT.out.2.2.1.small HT.out.2.2.2.small HO.out.2.2 (by omega))
      clear HB
      go_wp2_with fail
      refine M3.out.mono ?_
      rintro e w' ⟨rfl, rfl⟩
      go_wp2_with fail
      go_ret2
      exact ⟨_, 0, rfl, .inr (.inr ⟨HT.out, HO.out, rfl, rfl⟩), hw2⟩
end Go.Proofs.Ytnfcigbiebbjdaa
