/-
  The integers of a slice in rising order, in a new slice; whether a slice has each number below a limit once.
  Conditions: the slices start at the heads of blocks and are not longer than 1000.
-/
import Derived.Test.YtnfcigbiebbjdaaVals
import Derived.Test.YtnfcigbiebbjdaaLay
import Derived.Test.YtnfcigbiebbjdaaG9
import Derived.Sort.OwnSortedInts
import Derived.Shelf.Slices.In.SortNone
namespace Go.Proofs.Ytnfcigbiebbjdaa
open Go.RowKit Go.Sort

def up (l : List Int) : List Int := l.mergeSort fun x y => decide (x ≤ y)
theorem up_perm (l : List Int) : (up l).Perm l := List.mergeSort_perm l _
theorem up_length (l : List Int) : (up l).length = l.length := (up_perm l).length_eq
theorem up_sorted (l : List Int) : (up l).Pairwise (fun x y : Int => x ≤ y) := by
  have h := List.pairwise_mergeSort (le := fun x y : Int => decide (x ≤ y)) (by intro a b c h1 h2; simp at h1 h2 ⊢; omega) (by intro a b; simp; omega) l
  exact h.imp fun {a b} h => by simpa using h
theorem nums_sorted (n : Nat) : (nums n).Pairwise (fun x y : Int => x ≤ y) := by
  unfold nums
  rw [List.pairwise_map]
  exact List.pairwise_lt_range.imp fun {a b} h => by show (a : Int) ≤ b; omega
theorem up_nums {l : List Int} {n : Nat} : up l = nums n ↔ l.Perm (nums n) := by
  constructor
  · intro h
    exact (up_perm l).symm.trans (by rw [h])
  · intro h
    exact sorted_uniq (le := fun x y : Int => x ≤ y) (fun x y h1 h2 => by omega) ((up_perm l).trans h) (up_sorted l) (nums_sorted n)
theorem perm_isOrd {l : List Int} {n : Nat} : l.Perm (nums n) ↔ isOrd n l := ⟨isOrd_of_perm, fun h => h.perm⟩

/-- The sort of a slice that is the call's own. -/
theorem sort_own (base R n c : Nat) (l : List Int) (w : World) (h : w.ownsRow base 3 1 (.slice (some ⟨R, 0, none⟩) n c) n (l.map (Value.int .i64))) (hn : n ≤ 100000) :
    Calls Try.prog 87 #[.slice (some ⟨R, 0, none⟩) n c] w fun e w' => e = .returned (.tuple #[]) ∧ w'.ownsRow base 3 1 (.slice (some ⟨R, 0, none⟩) n c) n ((up l).map (Value.int .i64)) ∧ w.grownBy w' (some R) := by
  obtain ⟨hl, h2⟩ := h
  rcases h2 with ⟨h2, _⟩ | ⟨g, cap, cur, h2, h3, h4, h5, h6, h7, h8⟩
  · cases h2
  · cases h2
    have hln : l.length = n := by simpa using hl
    subst hln
    have hH : Holds (Value.int .i64) w R 0 l.toArray := holds_of_blockI h4 (by simpa using h8)
    have hblk : R < w.heap.size := (Array.getElem?_eq_some_iff.1 h4).1
    refine (Any.slices_Sort_int laysSort R 0 c l w hH hblk (by omega)).mono ?_
    rintro e w' ⟨rfl, k, os, rfl⟩
    exact ⟨rfl, ownsRow_sortedI (up_length l) h3 h4 h5 h6 (by omega), grownBy_sortedI _⟩
theorem appendSeq_any (Bs : Nat) (sv : Value) (zs : List Int) (hlen : zs.length ≤ 100000) (w : World) (hBs : Bs < w.heap.size) (hc : w.cell? ⟨Bs, 0, none⟩ = some sv) (hI : Ints w.heap.size w sv zs) :
    Calls Try.prog 94 #[.slice none 0 0, .func (.func 88) #[] #[.pointer (some ⟨Bs, 0, none⟩)]] w fun e W' => ∃ v, e = .returned v ∧ W'.ownsRow w.heap.size 3 1 v zs.length (zs.map (Value.int .i64)) ∧ Below w.heap.size w W' :=
  (callsIn_wide (n := 3)).1 (appendSeq_in Fence.wide 3 trivial trivial rfl (Nat.le_refl _) Bs sv zs hlen w hBs hc hI)
theorem collect_any (Bs : Nat) (sv : Value) (zs : List Int) (hlen : zs.length ≤ 100000) (w : World) (hBs : Bs < w.heap.size) (hc : w.cell? ⟨Bs, 0, none⟩ = some sv) (hI : Ints w.heap.size w sv zs) :
    Calls Try.prog 86 #[.func (.func 88) #[] #[.pointer (some ⟨Bs, 0, none⟩)]] w fun e W' => ∃ v, e = .returned v ∧ W'.ownsRow w.heap.size 3 1 v zs.length (zs.map (Value.int .i64)) ∧ Below w.heap.size w W' := by
  have M := Lib.hid (appendSeq_any Bs sv zs hlen w hBs hc hI)
  go_enter Try.func86, Try.ntmps86
  go_wp2_with fail
  refine M.out.mono ?_
  rintro e w1 ⟨v, rfl, h1, h2⟩
  have H1 := Lib.hid h1
  clear h1
  go_wp2_with fail
  go_ret
  exact ⟨v, rfl, H1.out, h2⟩
/-- The sort where there is nothing. -/
theorem sort_none (a : Option Addr) (c : Nat) (w : World) : Calls Try.prog 87 #[.slice a 0 c] w fun e w' => e = .returned (.tuple #[]) ∧ w' = w :=
  Any.slices_Sort_int_none laysSort a c w
theorem sort_val (base n : Nat) (v : Value) (l : List Int) (w : World) (h : w.ownsRow base 3 1 v n (l.map (Value.int .i64))) (hn : n ≤ 100000) (hb : base ≤ w.heap.size) :
    Calls Try.prog 87 #[v] w fun e w' => e = .returned (.tuple #[]) ∧ w'.ownsRow base 3 1 v n ((up l).map (Value.int .i64)) ∧ Below base w w' := by
  have h0 := h
  obtain ⟨hl, h2⟩ := h
  rcases h2 with ⟨h2, h3⟩ | ⟨g, cap, cur, h2, h3, h4, h5, h6, h7, h8⟩
  · subst h2
    subst h3
    have hl0 : l = [] := List.eq_nil_of_length_eq_zero (by simpa using hl)
    subst hl0
    refine (sort_none none 0 w).mono ?_
    rintro e w' ⟨rfl, rfl⟩
    exact ⟨rfl, by simpa [up] using h0, Below.refl _ _⟩
  · subst h2
    refine (sort_own base g n cap l w h0 hn).mono ?_
    rintro e w' ⟨rfl, h9, hg⟩
    exact ⟨rfl, h9, ⟨hg.os, hg.tape, hg.output, hg.size, fun k hk => hg.block k (by omega) (by simp; omega)⟩⟩
theorem sorted_any (Bs : Nat) (sv : Value) (zs : List Int) (hlen : zs.length ≤ 100000) (w : World) (hBs : Bs < w.heap.size) (hc : w.cell? ⟨Bs, 0, none⟩ = some sv) (hI : Ints w.heap.size w sv zs) :
    Calls Try.prog 73 #[.func (.func 88) #[] #[.pointer (some ⟨Bs, 0, none⟩)]] w fun e W' => ∃ v, e = .returned v ∧ W'.ownsRow w.heap.size 3 1 v zs.length ((up zs).map (Value.int .i64)) ∧ Below w.heap.size w W' := by
  have M := Lib.hid (collect_any Bs sv zs hlen w hBs hc hI)
  go_enter Try.func73, Try.ntmps73
  go_wp2_with fail
  refine M.out.mono ?_
  rintro e w1 ⟨v, rfl, h1, hb1⟩
  have S := Lib.hid (sort_val w.heap.size zs.length v zs w1 h1 hlen hb1.size)
  clear h1 M
  go_wp2_with fail
  refine S.out.mono ?_
  rintro e w2 ⟨rfl, h2, hb2⟩
  have H2 := Lib.hid h2
  have hfin := hb1.trans hb2
  clear h2 S
  go_wp2_with fail
  go_ret
  exact ⟨v, rfl, H2.out, hfin⟩

set_option maxHeartbeats 1000000 in
theorem equal_any (A B : Option Addr) (n m c d : Nat) (l r : List Int) (w : World) (ha : RowH w A n l) (hb : RowH w B m r) (hn : n ≤ 100000) :
    Calls Try.prog 89 #[.slice A n c, .slice B m d] w fun e w' => e = .returned (.bool (decide (l = r))) ∧ Below w.heap.size w w' := by
  have hla := ha.1
  have hlb := hb.1
  by_cases hnm : n = m
  · subst hnm
    have hbt0 : ((n : Int) != (n : Int)) = false := by simp
    have H0 : Hid (l.take 0 = r.take 0) := by show _ = _; simp
    go_enter Try.func89, Try.ntmps89
    go_wp2_with fail
    go_loopw [13] (fun i wr => ∃ k : Nat, k ≤ n ∧ i = .int .i64 k ∧ Hid (l.take k = r.take k) ∧ Below w.heap.size w wr) (fun i _ => n - (intOf i).toNat)
    case atStart => exact ⟨0, Nat.zero_le _, rfl, H0, Below.refl _ _⟩
    case round =>
      clear H0
      obtain ⟨k, hk, rfl, hT, hbw⟩ := hrel
      by_cases hlt : k < n
      · have hbt : decide ((k : Int) < (n : Int)) = true := by simp; omega
        have hbt2 : (k : Int) < (n : Int) := by omega
        obtain ⟨g, rfl, hg, hca⟩ := (ha.later hbw).at_ hlt
        obtain ⟨g', rfl, hg', hcb⟩ := (hb.later hbw).at_ hlt
        have hxa := getD_get (o := l) (k := k) (by omega)
        have hxb := getD_get (o := r) (k := k) (by omega)
        have hxl := later_cell (w := wr)
        have HA : Hid (l.take (k + 1) = l.take k ++ [l.getD k 0]) := by show _ = _; rw [List.take_add_one, hxa]; rfl
        have HB : Hid (r.take (k + 1) = r.take k ++ [r.getD k 0]) := by show _ = _; rw [List.take_add_one, hxb]; rfl
        clear hxa hxb
        generalize l.getD k 0 = x at *
        generalize r.getD k 0 = y at *
        by_cases hxy : x = y
        · subst hxy
          have t1 : (x != x) = false := by simp
          have HT : Hid (l.take (k + 1) = r.take (k + 1)) := by show _ = _; rw [HA.out, HB.out, hT.out]
          clear HA HB hT
          go_wp2_with fail
          refine wp_region_later (by kernel_rfl) (by kernel_rfl) ?_
          repeat (go_big_quiet_step (fail))
          refine wpQuiet_nil ?_
          rintro w3 ⟨⟨_, hb3⟩, rfl⟩
          have hb4 := hbw.trans (hb3.mono hbw.size)
          clear hxl hbw hb3 hca hcb
          go_wp2_with fail
          go_roundw
          case rel => exact ⟨k + 1, by omega, by go_num, HT.out, hb4⟩
          case measure => simp [intOf]; omega
        · have t1 : (x != y) = true := by simpa using hxy
          have HF : Hid (decide (l = r) = false) := by
            show _ = _
            rw [decide_eq_false_iff_not]
            intro e
            subst e
            have := HA.out.symm.trans HB.out
            simp at this
            exact hxy this
          clear HA HB hT
          go_wp2_with fail
          refine wp_region_later (by kernel_rfl) (by kernel_rfl) ?_
          repeat (go_big_quiet_step (fail))
          refine wpQuiet_nil ?_
          rintro w3 ⟨⟨_, hb3⟩, rfl⟩
          have hb4 := hbw.trans (hb3.mono hbw.size)
          clear hxl hbw hb3 hca hcb
          go_wp2_with fail
          go_ret
          exact ⟨by rw [HF.out]; rfl, hb4⟩
      · obtain rfl : k = n := by omega
        have hbt : decide ((k : Int) < (k : Int)) = false := by simp
        have HF : Hid (decide (l = r) = true) := by
          show _ = _
          rw [decide_eq_true_eq]
          have := hT.out
          rwa [List.take_of_length_le (by omega), List.take_of_length_le (by omega)] at this
        go_wp2_with fail
        go_ret
        exact ⟨by rw [HF.out]; rfl, hbw⟩
  · have t0 : ((n : Int) != (m : Int)) = true := by simp; omega
    have HF : Hid (decide (l = r) = false) := by
      show _ = _
      rw [decide_eq_false_iff_not]
      rintro rfl
      omega
    go_enter Try.func89, Try.ntmps89
    go_wp2_with fail
    go_ret
    exact ⟨by rw [HF.out]; rfl, Below.refl _ _⟩

set_option maxRecDepth 100000 in
set_option maxHeartbeats 1000000 in
theorem whole_any (A : Option Addr) (m c n : Nat) (o : List Int) (w : World) (rA : RowH w A m o) (hm : m ≤ 1000) (hn : n ≤ 1000) :
    Calls Try.prog 75 #[.slice A m c, .int .i64 n] w fun e w' => ∃ b : Bool, e = .returned (.bool b) ∧ (b = true ↔ isOrd n o) ∧ Below w.heap.size w w' := by
  have hol := rA.1
  have hb0 : Below w.heap.size w (w.alloc (.cells #[.slice A m c] 23)) := (Below.refl _ _).alloc (Nat.le_refl _) _
  have S := Lib.hid (sorted_any w.heap.size (.slice A m c) o (by omega) (w.alloc (.cells #[.slice A m c] 23)) (by simp) ((Blk.new w 23 #[.slice A m c]).cell 0) ((rA.later hb0).ints))
  go_enter Try.func75, Try.ntmps75
  go_wp2_with fail
  refine (values_any A m c w).mono ?_
  rintro e w1 ⟨rfl, rfl⟩
  go_wp2_with fail
  refine S.out.mono ?_
  rintro e w2 ⟨v, rfl, hown, hb2⟩
  rw [hol] at hown
  have hb3 := hb0.trans (hb2.mono hb0.size)
  have N := Lib.hid (numbers_any n w2 hn)
  obtain ⟨A2, c2, rfl⟩ := own_slice hown
  have hr2 := own_rowH hown
  clear S hb0 hb2 hown
  go_wp2_with fail
  refine N.out.mono ?_
  rintro e w3 ⟨rfl, hRn, hb4⟩
  have hr3 := hr2.later hb4
  have rN := RowH.of_row hRn (nums_length n)
  have hb5 := hb3.trans (hb4.mono hb3.size)
  have E := Lib.hid (equal_any A2 (some ⟨w2.heap.size, 0, none⟩) m n c2 n (up o) (nums n) w3 hr3 rN (by omega))
  obtain ⟨b, hbe⟩ : ∃ b : Bool, b = decide (up o = nums n) := ⟨_, rfl⟩
  rw [← hbe] at E
  have HD : Hid ((b = true ↔ isOrd n o)) := by
    show _ ↔ _
    rw [hbe, decide_eq_true_iff, up_nums, perm_isOrd]
  clear N hr2 hRn hb4 hb3 hr3 rN hbe
  go_wp2_with fail
  refine E.out.mono ?_
  rintro e w4 ⟨rfl, hb6⟩
  have hfin := hb5.trans (hb6.mono hb5.size)
  clear E hb6 hb5
  go_wp2_with fail
  go_ret
  exact ⟨b, rfl, HD.out, hfin⟩
end Go.Proofs.Ytnfcigbiebbjdaa
