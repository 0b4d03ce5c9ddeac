/-
  Sets of numbers as digits; the most jobs on time by trying all sets.
  Conditions: of at most nine jobs.
-/
import Derived.Test.YtnfcigbiebbjdaaOtW
namespace Go.Proofs.Ytnfcigbiebbjdaa
open Go.RowKit

/-- The numbers below k of a set of digits. -/
def digs (s k : Nat) : List Int := (nums k).filter fun i => decide (s / 2 ^ i.toNat % 2 = 1)
theorem digs_succ (s k : Nat) : digs s (k + 1) = if s / 2 ^ k % 2 = 1 then digs s k ++ [(k : Int)] else digs s k := by
  unfold digs
  rw [nums_succ, List.filter_append]
  by_cases h : s / 2 ^ k % 2 = 1 <;> simp [h]
theorem digs_rise (s k : Nat) : RiseP k (digs s k) := by
  refine ⟨fun x hx => mem_nums.1 (List.mem_filter.1 hx).1, ?_⟩
  have h : (nums k).Pairwise (fun x y : Int => x < y) := by
    unfold nums
    rw [List.pairwise_map]
    exact List.pairwise_lt_range.imp fun {a b} h => by show (a : Int) < b; omega
  exact h.filter _
theorem digs_len (s k : Nat) : (digs s k).length ≤ k := by
  unfold digs
  have := List.length_filter_le (fun i : Int => decide (s / 2 ^ i.toNat % 2 = 1)) (nums k)
  rwa [nums_length] at this
/-- Each set is a set of digits. -/
theorem digs_all (T : List Int) : ∀ k : Nat, ∃ s, s < 2 ^ k ∧ ∀ i : Int, 0 ≤ i → i < k → (i ∈ T ↔ s / 2 ^ i.toNat % 2 = 1)
  | 0 => ⟨0, by simp, fun i h0 h1 => by omega⟩
  | k + 1 => by
    obtain ⟨s, hs, h⟩ := digs_all T k
    have hp : 2 ^ (k + 1) = 2 ^ k + 2 ^ k := by rw [Nat.pow_succ]; omega
    have hlow : ∀ i : Nat, i < k → ∀ c : Nat, (s + c * 2 ^ k) / 2 ^ i % 2 = s / 2 ^ i % 2 := fun i hi c => by
      obtain ⟨d, rfl⟩ : ∃ d, k = i + d + 1 := ⟨k - i - 1, by omega⟩
      have e : c * 2 ^ (i + d + 1) = 2 ^ i * (2 * (c * 2 ^ d)) := by
        rw [Nat.pow_succ, Nat.pow_add]
        simp [Nat.mul_comm, Nat.mul_left_comm]
      rw [e, Nat.add_mul_div_left _ _ (Nat.two_pow_pos i)]
      omega
    by_cases hk : (k : Int) ∈ T
    · refine ⟨s + 1 * 2 ^ k, by omega, fun i i0 i1 => ?_⟩
      obtain ⟨j, rfl⟩ := Int.eq_ofNat_of_zero_le i0
      rw [Int.toNat_natCast]
      by_cases e : j = k
      · subst e
        rw [Nat.add_mul_div_right _ _ (Nat.two_pow_pos j), Nat.div_eq_of_lt hs]
        simp [hk]
      · rw [hlow j (by omega)]
        have := h j i0 (by omega)
        rwa [Int.toNat_natCast] at this
    · refine ⟨s, by omega, fun i i0 i1 => ?_⟩
      obtain ⟨j, rfl⟩ := Int.eq_ofNat_of_zero_le i0
      rw [Int.toNat_natCast]
      by_cases e : j = k
      · subst e
        rw [Nat.div_eq_of_lt hs]
        simp [hk]
      · have := h j i0 (by omega)
        rwa [Int.toNat_natCast] at this
theorem digs_of {T : List Int} {k : Nat} (hn : T.Nodup) (hT : ∀ z ∈ T, 0 ≤ z ∧ z < (k : Int)) : ∃ s, s < 2 ^ k ∧ (digs s k).Perm T := by
  obtain ⟨s, hs, h⟩ := digs_all T k
  refine ⟨s, hs, (List.perm_ext_iff_of_nodup (show (digs s k).Nodup from (nums_nodup k).filter _) hn).2 fun i => ?_⟩
  unfold digs
  rw [List.mem_filter, mem_nums, decide_eq_true_iff]
  constructor
  · rintro ⟨⟨i0, i1⟩, h1⟩
    exact (h i i0 i1).2 h1
  · intro hi
    exact ⟨hT i hi, (h i (hT i hi).1 (hT i hi).2).1 hi⟩
theorem and_1 (n : Int) : bits .and .i64 n 1 = n % 2 := by
  have h127 : (BitVec.ofInt 64 1).toNat = 2 ^ 1 - 1 := by decide
  have key : (BitVec.ofInt 64 n &&& BitVec.ofInt 64 1).toNat = (n % ((2 ^ 64 : Nat) : Int)).toNat % 2 ^ 1 := by
    rw [BitVec.toNat_and, BitVec.toNat_ofInt, h127, Nat.and_two_pow_sub_one_eq_mod]
  show IntKind.i64.wrap ((BitVec.ofInt 64 n &&& BitVec.ofInt 64 1).toNat : Nat) = n % 2
  rw [key, IntKind.wrap_i64]
  omega
theorem and_dig (s k : Nat) : bits .and .i64 ((s : Int) / 2 ^ k) 1 = ((s / 2 ^ k % 2 : Nat) : Int) := by
  rw [and_1]
  have e : ((s : Int) / 2 ^ k) = ((s / 2 ^ k : Nat) : Int) := by
    rw [Int.natCast_ediv]
    congr 1
  rw [e]
  omega
set_option maxRecDepth 100000 in
set_option maxHeartbeats 1000000 in
theorem Set_any (s n : Nat) (w : World) (hn : n ≤ 9) : Calls Try.prog 76 #[.int .i64 s, .int .i64 n] w (CutR w (digs s n)) := by
  have hb0 : Below w.heap.size w (w.alloc (.cells #[] 3)) := (Below.refl _ _).alloc (Nat.le_refl _) _
  have hmade : (w.alloc (.cells #[] 3)).ownsRow w.heap.size 3 1 (.slice (some ⟨w.heap.size, 0, none⟩) 0 0) 0 (([] : List Int).map (Value.int .i64)) := World.ownsRow_made (base := w.heap.size) (e := 3) (size := 1) w #[] 0 (by simp) (by unfold maxLen; omega) (by simp)
  go_enter Try.func76, Try.ntmps76
  go_wp2_with fail
  go_loopw [5, 6] (fun v i wr => ∃ k : Nat, k ≤ n ∧ i = .int .i64 k ∧ wr.ownsRow w.heap.size 3 1 v (digs s k).length ((digs s k).map (Value.int .i64)) ∧ Below w.heap.size w wr) (fun _ i _ => n - (intOf i).toNat)
  case atStart => exact ⟨0, Nat.zero_le _, rfl, by simpa [digs, nums] using hmade, hb0⟩
  case round =>
    clear hmade hb0
    obtain ⟨k, hk, rfl, hown, hb⟩ := hrel
    obtain ⟨v, hv⟩ : ∃ v, v = u5 := ⟨_, rfl⟩
    subst hv
    by_cases hlt : k < n
    · have hbt : decide ((k : Int) < (n : Int)) = true := by simp; omega
      have hbt2 : (k : Int) < (n : Int) := by omega
      have hd := and_dig s k
      have hdl := digs_len s k
      by_cases h1 : s / 2 ^ k % 2 = 1
      · rw [h1] at hd
        have hd1 : bits BinOp.and IntKind.i64 ((s : Int) / 2 ^ k) 1 = 1 := hd
        have HD : Hid (digs s (k + 1) = digs s k ++ [(k : Int)]) := by show _ = _; rw [digs_succ, if_pos h1]
        have hba := (Below.refl wr.heap.size wr).alloc (Nat.le_refl _) (.cells #[.int .i64 (k : Int)] 3)
        have hri : RowI (wr.alloc (.cells #[.int .i64 (k : Int)] 3)) (some ⟨wr.heap.size, 0, none⟩) 1 [(k : Int)] := (row_lit wr [(k : Int)] 1 rfl).rowI
        have hown2 := own_later hown hba
        have hb2 := hb.trans (hba.mono hb.size)
        have hsz := hb.size
        obtain ⟨m, hm⟩ : ∃ m, m = (digs s k).length := ⟨_, rfl⟩
        rw [← hm] at hdl hown2
        have HMm := Lib.hid hm
        clear hd h1 hown hba hm
        go_wp2_with (at_builtin; refine app_ints _ rfl (.tmp 18) (.tmp 20) rfl w.heap.size v m (digs s k) rfl hown2 (some ⟨wr.heap.size, 0, none⟩) 1 1 [(k : Int)] rfl hri (by omega) (by simp; omega) ?_)
        intro v3 w6 hown8 hgr6
        have hb3 : Below w.heap.size w w6 := hb2.grown hgr6 (by simp; omega) (fun p hp => (hown2.lt p hp).1)
        have hfo : Hid (w6.ownsRow w.heap.size 3 1 v3 (digs s (k + 1)).length ((digs s (k + 1)).map (Value.int .i64))) := by
          show World.ownsRow _ _ _ _ _ _ _
          rw [HD.out, List.length_append, ← HMm.out]
          simpa using hown8
        clear hown8 hgr6 hown2 hri
        go_wp2_with fail
        go_roundw
        case rel => exact ⟨k + 1, by omega, by go_num, hfo.out, hb3⟩
        case measure => simp [intOf]; omega
      · have h0 : s / 2 ^ k % 2 = 0 := by omega
        rw [h0] at hd
        have hd1 : bits BinOp.and IntKind.i64 ((s : Int) / 2 ^ k) 1 = 0 := hd
        have HD : Hid (digs s (k + 1) = digs s k) := by show _ = _; rw [digs_succ, if_neg h1]
        clear hd h1 h0
        go_wp2_with fail
        go_roundw
        case rel => exact ⟨k + 1, by omega, by go_num, by rw [HD.out]; exact hown, hb⟩
        case measure => simp [intOf]; omega
    · obtain rfl : k = n := by omega
      have hbt : decide ((k : Int) < (k : Int)) = false := by simp
      have hfo : Hid (CutR w (digs s k) (.returned v) wr) := ⟨v, rfl, hown, hb⟩
      clear hown
      go_wp2_with fail
      go_ret
      exact hfo.out

/-- The greatest number of jobs on time of the sets below s. -/
def MostTo (l : List Jb) (n s : Nat) (b : Int) : Prop :=
  (∃ T : List Int, T.Nodup ∧ (∀ z ∈ T, 0 ≤ z ∧ z < (n : Int)) ∧ AbleT l 0 T ∧ b = T.length) ∧ ∀ t, t < s → AbleT l 0 (digs t n) → ((digs t n).length : Int) ≤ b
theorem MostTo.zero (l : List Jb) (n : Nat) : MostTo l n 0 0 := ⟨⟨[], List.nodup_nil, by simp, fun i hi => by simp at hi, rfl⟩, fun t h => by omega⟩
theorem MostTo.keep {l : List Jb} {n s : Nat} {b : Int} (h : MostTo l n s b) (hk : AbleT l 0 (digs s n) → ((digs s n).length : Int) ≤ b) : MostTo l n (s + 1) b :=
  ⟨h.1, fun t ht ha => by
    rcases Nat.lt_or_ge t s with h1 | h1
    · exact h.2 t h1 ha
    · obtain rfl : t = s := by omega
      exact hk ha⟩
theorem MostTo.take {l : List Jb} {n s : Nat} {b : Int} (h : MostTo l n s b) (hb : b ≤ (digs s n).length) (ha : AbleT l 0 (digs s n)) : MostTo l n (s + 1) (digs s n).length :=
  ⟨⟨digs s n, (digs_rise s n).2.imp fun {x y} h e => by omega, (digs_rise s n).1, ha, rfl⟩, fun t ht hA => by
    rcases Nat.lt_or_ge t s with h1 | h1
    · have := h.2 t h1 hA; omega
    · obtain rfl : t = s := by omega
      exact Int.le_refl _⟩
theorem MostTo.best {l : List Jb} {n : Nat} {b : Int} (h : MostTo l n (2 ^ n) b) {T : List Int} (hn : T.Nodup) (hT : ∀ z ∈ T, 0 ≤ z ∧ z < (n : Int)) (ha : AbleT l 0 T) : (T.length : Int) ≤ b := by
  obtain ⟨s, hs, hp⟩ := digs_of hn hT
  have := h.2 s hs ((able_perm hp).2 ha)
  rwa [hp.length_eq] at this
set_option maxRecDepth 100000 in
set_option maxHeartbeats 4000000 in
theorem rOnTime_yes (A : Option Addr) (n c : Nat) (l : List Jb) (w : World) (rA : JobsH w A n l) (hn : n ≤ 9) (ht : ∀ (k : Nat) (x : Jb), l[k]? = some x → Calm x) :
    Calls Try.prog 44 #[.slice A n c] w fun e w' => ∃ b : Int, e = .returned (.int .i64 b) ∧ MostTo l n (2 ^ n) b ∧ Below w.heap.size w w' := by
  have HT := Lib.hid ht
  have H0 := Lib.hid (MostTo.zero l n)
  obtain ⟨P, hP⟩ : ∃ P, P = 2 ^ n := ⟨_, rfl⟩
  have hP9 : P ≤ 512 := by rw [hP]; exact Nat.pow_le_pow_right (by omega) hn
  have hP1 : 1 ≤ P := by rw [hP]; exact Nat.two_pow_pos n
  have ep : (2 : Int) ^ n = (P : Int) := by rw [hP]; exact (Int.natCast_pow 2 n).symm
  have HP := Lib.hid hP
  clear ht hP
  go_enter Try.func44, Try.ntmps44
  go_wp2_with fail
  go_loopw [3, 4] (fun b s wr => ∃ (k : Nat) (b0 : Int), k ≤ P ∧ s = .int .i64 k ∧ b = .int .i64 b0 ∧ MostTo l n k b0 ∧ 0 ≤ b0 ∧ b0 ≤ 9 ∧ Below w.heap.size w wr) (fun _ i _ => P - (intOf i).toNat)
  case atStart => exact ⟨0, 0, Nat.zero_le _, rfl, rfl, H0.out, Int.le_refl _, by omega, Below.refl _ _⟩
  case round =>
    clear H0
    obtain ⟨k, b0, hk, rfl, rfl, hM, hb0, hb9, hb⟩ := hrel
    by_cases hlt : k < P
    · have hbt : decide ((k : Int) < (P : Int)) = true := by simp; omega
      have hbt2 : (k : Int) < (P : Int) := by omega
      have S1 := Lib.hid (Set_any k n wr hn)
      go_wp2_with fail
      refine S1.out.mono ?_
      rintro e w2 ⟨v, rfl, hown, hb2⟩
      obtain ⟨A2, c2, rfl⟩ := own_slice hown
      have hr := own_rowH hown
      have hri := Lib.hid (digs_rise k n)
      have hdl := digs_len k n
      have HK := Lib.hid (fun h => hM.keep h)
      have HTk := Lib.hid (fun h1 h2 => hM.take h1 h2)
      obtain ⟨o, ho⟩ : ∃ o, o = digs k n := ⟨_, rfl⟩
      have hw2 := hb.trans (hb2.mono hb.size)
      rw [← ho] at hr hri hdl HK HTk ⊢
      obtain ⟨m, hm⟩ : ∃ m, m = o.length := ⟨_, rfl⟩
      rw [← hm] at hr hdl ⊢
      have HMm := Lib.hid hm
      clear S1 hown ho hm hb hb2 hM
      by_cases hgt : b0 < (m : Int)
      · have u1 : decide ((m : Int) > b0) = true := by simpa using hgt
        have R1 := Lib.hid (rAble_any A A2 n c m c2 l o w2 (rA.later hw2) hr HT.out hri.out.1 (by omega))
        go_wp2_with fail
        refine R1.out.mono ?_
        rintro e w3 ⟨g, rfl, hg, hb3⟩
        have HG := Lib.hid hg
        have hw3 := hw2.trans (hb3.mono hw2.size)
        clear R1 hg hw2 hb3 hr
        cases g with
        | true =>
          have HN : Hid (MostTo l n (k + 1) m) := by
            have := HTk.out (by rw [← HMm.out]; omega) (HG.out.1 rfl)
            rw [← HMm.out] at this
            exact this
          clear HK HTk HG
          go_wp2_with fail
          go_roundw
          case rel => exact ⟨k + 1, m, by omega, by go_num, rfl, HN.out, by omega, by omega, hw3⟩
          case measure => simp [intOf]; omega
        | false =>
          have HN : Hid (MostTo l n (k + 1) b0) := HK.out fun h => by have := HG.out.2 h; cases this
          clear HK HTk HG
          go_wp2_with fail
          go_roundw
          case rel => exact ⟨k + 1, b0, by omega, by go_num, rfl, HN.out, by omega, by omega, hw3⟩
          case measure => simp [intOf]; omega
      · have u1 : decide ((m : Int) > b0) = false := by simpa using hgt
        have HN : Hid (MostTo l n (k + 1) b0) := HK.out fun _ => by rw [← HMm.out]; omega
        clear HK HTk hr
        go_wp2_with fail
        go_roundw
        case rel => exact ⟨k + 1, b0, by omega, by go_num, rfl, HN.out, by omega, by omega, hw2⟩
        case measure => simp [intOf]; omega
    · obtain rfl : k = P := by omega
      have hbt : decide ((k : Int) < (k : Int)) = false := by simp
      have HN : Hid (MostTo l n (2 ^ n) b0) := by
        show MostTo _ _ _ _
        rw [← HP.out]
        exact hM
      clear hM
      go_wp2_with fail
      go_ret
      exact ⟨b0, rfl, HN.out, hb⟩

set_option maxRecDepth 100000 in
theorem OnTime_no (A : Option Addr) (n c : Nat) (l : List Jb) (w : World) (rA : JobsH w A n l) (hm : ∀ (k : Nat) (j : Jb), l[k]? = some j → j.after.length ≤ 1000) (hn : n ≤ 1000) (hv : validB l = false) :
    Calls Try.prog 35 #[.slice A n c] w fun e w' => e = .returned (.tuple #[.int .i64 0, .slice none 0 0, .int .i64 1]) ∧ Below w.heap.size w w' := by
  have hw2 : Below w.heap.size w (w.alloc (.cells #[.slice A n c] 22)) := (Below.refl _ _).alloc (Nat.le_refl _) _
  have M1 := Lib.hid (Check_no A n c l _ (rA.later hw2) hm hn hv)
  have k2 := Blk.new w 22 #[.slice A n c]
  have x0 := k2.cell
  have y0 := k2.lt
  clear hm
  go_enter Try.func35, Try.ntmps35
  go_wp2_with fail
  refine M1.out.mono ?_
  rintro e w1 ⟨rfl, hb1⟩
  have hw1 := hw2.trans (hb1.mono (by simp))
  clear x0 y0 k2
  go_wp2_with fail
  (try simp only [Exit.inBlock, Exit.then]); refine bodyPost_ret (results_tmp3 rfl _ _ _) rfl ?_
  exact ⟨rfl, hw1⟩
end Go.Proofs.Ytnfcigbiebbjdaa
