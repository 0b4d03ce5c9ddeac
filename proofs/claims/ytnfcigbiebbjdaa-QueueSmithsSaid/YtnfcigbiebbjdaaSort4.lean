/-
  The merge of two neighbouring runs where one of them is of one element.
  Conditions: as for the insertion.
-/
import Derived.Test.YtnfcigbiebbjdaaSort1
import Derived.Test.YtnfcigbiebbjdaaSort3
namespace Go.Proofs.Ytnfcigbiebbjdaa
open Go.RowKit

theorem row_mid {P B Q : List Int} {x y : Int} {t : Nat} (hy : B[t]? = some y) : (P ++ (x :: B) ++ Q)[P.length]? = some x ∧ (P ++ (x :: B) ++ Q)[P.length + 1 + t]? = some y := by
  have ht := (List.getElem?_eq_some_iff.1 hy).1
  rw [List.append_assoc, List.cons_append]
  refine ⟨at_mid _ _ _, ?_⟩
  rw [List.getElem?_append_right (by omega), show P.length + 1 + t - P.length = t + 1 by omega, List.getElem?_cons_succ, List.getElem?_append_left ht]
  exact hy
/-- Where x comes into a sorted list. -/
def Cut (p : Int → Prop) (B : List Int) (lo hi : Nat) : Prop := lo ≤ hi ∧ hi ≤ B.length ∧ (∀ t y, t < lo → B[t]? = some y → p y) ∧ ∀ t y, hi ≤ t → B[t]? = some y → ¬ p y

theorem Cut.low {p : Int → Prop} {B : List Int} {lo hi t : Nat} {y : Int} (h : Cut p B lo hi) (ht2 : t < hi) (hp : p y) (hm : ∀ s z, s ≤ t → B[s]? = some z → p y → p z) : Cut p B (t + 1) hi :=
  ⟨by omega, h.2.1, fun s z hs hz => hm s z (by omega) hz hp, h.2.2.2⟩
theorem Cut.high {p : Int → Prop} {B : List Int} {lo hi t : Nat} {y : Int} (h : Cut p B lo hi) (ht : lo ≤ t) (ht2 : t < hi) (hp : ¬ p y) (hm : ∀ s z, t ≤ s → B[s]? = some z → p z → p y) : Cut p B lo t :=
  ⟨ht, by have := h.2.1; omega, h.2.2.1, fun s z hs hz hp' => hp (hm s z hs hz hp')⟩
theorem sorted_at {le : Int → Int → Prop} (T : TotLe le) {B : List Int} (h : B.Pairwise le) {s t : Nat} {y z : Int} (hst : s ≤ t) (hz : B[s]? = some z) (hy : B[t]? = some y) : le z y := by
  rcases Nat.lt_or_eq_of_le hst with h1 | rfl
  · have l1 := (List.getElem?_eq_some_iff.1 hz)
    have l2 := (List.getElem?_eq_some_iff.1 hy)
    obtain ⟨a1, e1⟩ := l1
    obtain ⟨a2, e2⟩ := l2
    have := List.pairwise_iff_getElem.1 h s t a1 a2 h1
    rwa [e1, e2] at this
  · rw [hz] at hy
    obtain rfl : z = y := by simpa using hy
    exact (T.total z z).elim id id

set_option maxRecDepth 100000 in
set_option maxHeartbeats 4000000 in
theorem merge_left {g : Nat} {cb : Array Value} {cf : Int → Int → Int} {w0 : World} {R : Nat} {D : Int → Prop} (C : Cmp g cb cf w0 R D) {le : Int → Int → Prop} (T : TotLe le)
    (P B Q : List Int) (x : Int) (cap : Nat) (w : World) (hD : D x ∧ ∀ y ∈ B, D y) (hX : ∀ y ∈ B, Agrees cf le x y) (sB : B.Pairwise le) (hB : RowB w R (P ++ (x :: B) ++ Q)) (hw : w0.grownBy w (some R)) (a m b N : Nat)
    (ha : a = P.length) (hm : m = P.length + 1) (hb : b = P.length + 1 + B.length) (hN : N = (P ++ (x :: B) ++ Q).length) (hl : N ≤ 1000) :
    Calls Try.prog 92 #[.slice (some ⟨R, 0, none⟩) N cap, .int .i64 a, .int .i64 m, .int .i64 b, .func (.func g) #[] cb] w fun e w' =>
      e = .returned (.tuple #[]) ∧ ∃ C', C'.Perm (x :: B) ∧ C'.Pairwise le ∧ RowB w' R (P ++ C' ++ Q) ∧ w0.grownBy w' (some R) := by
  have eg := C.enters
  have HC := Lib.hid C
  have HT := Lib.hid T
  have HX := Lib.hid hX
  have HD := Lib.hid hD
  have HS := Lib.hid sB
  clear C T hX hD sB
  have hlen := hN
  simp only [List.length_append, List.length_cons] at hlen
  have hab : a ≤ 1000 ∧ m ≤ 1000 ∧ b ≤ 1000 ∧ b ≤ N := by omega
  obtain ⟨ha1, hm1, hb1, hbN⟩ := hab
  have q1 : (m : Int) - (a : Int) = 1 := by omega
  have HL := Lib.hid (show m = a + 1 ∧ a = P.length ∧ b = m + B.length ∧ N = a + 1 + B.length + Q.length by omega)
  clear hN ha hb hm hlen
  go_enter Try.func92, Try.ntmps92
  go_wp2_with fail
  go_loopw [10, 11] (fun u t wr => ∃ (lo hi : Nat), u = .int .i64 (m + lo : Nat) ∧ t = .int .i64 (m + hi : Nat) ∧ Hid (Cut (fun y => ¬ le x y) B lo hi) ∧ RowB wr R (P ++ (x :: B) ++ Q) ∧ w0.grownBy wr (some R)) (fun u t _ => (intOf t).toNat - (intOf u).toNat)
  case atStart =>
    have := HL.out
    exact ⟨0, B.length, by rw [Nat.add_zero], by congr 1; omega, ⟨Nat.zero_le _, Nat.le_refl _, fun t y h => by omega, fun t y h hy => by have := (List.getElem?_eq_some_iff.1 hy).1; omega⟩, hB, hw⟩
  case round =>
    clear hB hw
    obtain ⟨lo, hi, rfl, rfl, hC, hB, hw⟩ := hrel
    by_cases hlt : lo < hi
    · obtain ⟨i, hi'⟩ : ∃ i, i = m + lo := ⟨_, rfl⟩
      obtain ⟨j, hj'⟩ : ∃ j, j = m + hi := ⟨_, rfl⟩
      rw [← hi', ← hj']
      have hij : i < j := by omega
      have hj1 : j ≤ 1000 := by have := hC.out.2.1; have := HL.out; omega
      have hbt : decide ((i : Int) < (j : Int)) = true := by simp; omega
      have hbt2 : (i : Int) < (j : Int) := by omega
      have HI := Lib.hid hi'
      have HJ := Lib.hid hj'
      clear hi' hj'
      obtain ⟨t, ht⟩ : ∃ t, t = (lo + hi) / 2 := ⟨_, rfl⟩
      obtain ⟨h, hh⟩ : ∃ h, h = m + t := ⟨_, rfl⟩
      have q3 : ((i : Int) + (j : Int)) / 2 = (h : Int) := by have := HI.out; have := HJ.out; omega
      have ht1 : lo ≤ t ∧ t < hi := by omega
      have htB : t < B.length := by have := hC.out.2.1; omega
      obtain ⟨y, hy⟩ : ∃ y, B[t]? = some y := ⟨_, List.getElem?_eq_getElem htB⟩
      have cx : wr.cell? ⟨R, a, none⟩ = some (.int .i64 x) := hB.at_ (by rw [HL.out.2.1]; exact (row_mid hy).1)
      have cy : wr.cell? ⟨R, h, none⟩ = some (.int .i64 y) := hB.at_ (by
        have e : h = P.length + 1 + t := by have := HL.out; omega
        rw [e]; exact (row_mid hy).2)
      have lR := hB.lt
      have hh1 : h < N := by have := HL.out; omega
      have haN : a < N := by have := HL.out; omega
      have hyB : y ∈ B := List.mem_of_getElem? hy
      have hag := Lib.hid (HX.out y hyB)
      have M : Hid (∀ z : Later wr, Hid (Calls Try.prog g (#[.int .i64 y, .int .i64 x] ++ cb) z.val fun e w' => e = .returned (.int .i64 (cf y x)) ∧ ∃ z2 : Later wr, w' = z2.val)) := fun z => later_call (HC.out.tells z.val (only_trans_below hw z.property) y x (HD.out.2 y hyB) HD.out.1)
      have hx := later_cell (w := wr)
      have HH := Lib.hid hh
      have HTt := Lib.hid ht
      have HY := Lib.hid hy
      clear hh ht hy hyB
      by_cases hlv : cf y x < 0
      · have hb6 : decide (cf y x < 0) = true := by simpa using hlv
        have NL := Lib.hid (hag.out.1 hlv)
        go_wp2_with fail
        refine wp_region_later (by kernel_rfl) (by kernel_rfl) ?_
        repeat (go_big_quiet_step ((first | (go_at_fn g; exact (M.out _).out))))
        refine wpQuiet_nil ?_
        rintro w2 ⟨⟨_, hb2⟩, rfl⟩
        have hB2 := hB.later hb2
        go_wp2_with fail
        go_roundw
        case rel =>
          refine ⟨t + 1, hi, by rw [HH.out]; go_num, by rw [HJ.out], hC.out.low ht1.2 NL.out ?_, hB2, only_trans_below hw hb2⟩
          exact fun s z hs hz hp hl => hp (HT.out.trans x z y hl (sorted_at HT.out HS.out hs hz HY.out))
        case measure => have := HI.out; have := HJ.out; have := HH.out; simp [intOf]; omega
      · have hb6 : decide (cf y x < 0) = false := by simpa using hlv
        have NL : Hid (¬ ¬ le x y) := fun h => hlv (hag.out.2 h)
        go_wp2_with fail
        refine wp_region_later (by kernel_rfl) (by kernel_rfl) ?_
        repeat (go_big_quiet_step ((first | (go_at_fn g; exact (M.out _).out))))
        refine wpQuiet_nil ?_
        rintro w2 ⟨⟨_, hb2⟩, rfl⟩
        have hB2 := hB.later hb2
        go_wp2_with fail
        go_roundw
        case rel =>
          refine ⟨lo, t, by rw [HI.out], by rw [HH.out], hC.out.high ht1.1 ht1.2 NL.out ?_, hB2, only_trans_below hw hb2⟩
          exact fun s z hs hz hp hl => hp (HT.out.trans x y z hl (sorted_at HT.out HS.out hs HY.out hz))
        case measure => have := HI.out; have := HJ.out; have := HH.out; simp [intOf]; omega
    · obtain rfl : lo = hi := by have := hC.out.1; omega
      have hlB : lo ≤ B.length := hC.out.2.1
      obtain ⟨i, hi'⟩ : ∃ i, i = m + lo := ⟨_, rfl⟩
      rw [← hi']
      have hbt : decide ((i : Int) < (i : Int)) = false := by simp
      have hi1 : i ≤ 1000 := by have := HL.out; omega
      have q3 : (i : Int) - 1 = ((a + lo : Nat) : Int) := by have := HL.out; omega
      obtain ⟨z, hz⟩ : ∃ z, z = a + lo := ⟨_, rfl⟩
      rw [← hz] at q3
      have hz1 : z < N := by have := HL.out; omega
      have hNb : N ≤ 1000 := hl
      have HZ := Lib.hid hz
      have HI := Lib.hid hi'
      clear hz hi'
      go_wp2_with fail
      go_loopw [13] (fun u wr => ∃ t : Nat, t ≤ lo ∧ u = .int .i64 (a + t : Nat) ∧ RowB wr R ((P ++ B.take t) ++ x :: (B.drop t ++ Q)) ∧ w0.grownBy wr (some R)) (fun u _ => z - (intOf u).toNat)
      case atStart => exact ⟨0, Nat.zero_le _, by rw [Nat.add_zero], by simpa using hB, hw⟩
      case round =>
        clear hB hw
        obtain ⟨t, ht, rfl, hB, hw⟩ := hrel
        obtain ⟨k, hk⟩ : ∃ k, k = a + t := ⟨_, rfl⟩
        rw [← hk]
        by_cases hlt : t < lo
        · have hbt : decide ((k : Int) < (z : Int)) = true := by have := HZ.out; simp; omega
          have hkz : (k : Int) < (z : Int) := by have := HZ.out; omega
          obtain ⟨y, hy⟩ : ∃ y, B[t]? = some y := ⟨_, List.getElem?_eq_getElem (by omega)⟩
          have hd : B.drop t = y :: B.drop (t + 1) := by rw [List.drop_eq_getElem_cons (by omega), (List.getElem?_eq_some_iff.1 hy).2]
          have htk : B.take (t + 1) = B.take t ++ [y] := by rw [List.take_add_one, hy]; rfl
          rw [hd] at hB
          have e1 : k = (P ++ B.take t).length := by rw [List.length_append, List.length_take]; have := HL.out; omega
          have cx : wr.cell? ⟨R, k, none⟩ = some (.int .i64 x) := hB.at_ (by rw [e1]; exact at_mid _ _ _)
          have cy : wr.cell? ⟨R, k + 1, none⟩ = some (.int .i64 y) := hB.at_ (by rw [e1]; exact at_mid1 _ _ _ _)
          have fx : wr.frozen? ⟨R, k, none⟩ = false := hB.frozen _
          have fy : wr.frozen? ⟨R, k + 1, none⟩ = false := hB.frozen _
          obtain ⟨k1, hk1⟩ : ∃ k1, k1 = k + 1 := ⟨_, rfl⟩
          have t1 : ((k : Int) + 1).toNat = k1 := by omega
          rw [← hk1] at cy fy
          have hne : k ≠ k1 := by omega
          have j1 : (k : Int) + 1 < (N : Int) := by omega
          have j2 : (k : Int) < (N : Int) := by omega
          have k2 : (0 : Int) ≤ (k : Int) + 1 := by omega
          have h1 := (hB.set_ k y).set_ k1 x
          have h2 := swap_next (P ++ B.take t) (B.drop (t + 1) ++ Q) x y
          rw [← e1, ← hk1] at h2
          rw [List.cons_append, h2] at h1
          have h3 : (P ++ B.take t) ++ y :: x :: (B.drop (t + 1) ++ Q) = (P ++ B.take (t + 1)) ++ x :: (B.drop (t + 1) ++ Q) := by rw [htk]; simp
          rw [h3] at h1
          have H1 := Lib.hid h1
          have HK := Lib.hid hk
          clear h1 h2 h3 hd htk e1 hk hk1 hy
          go_wp2_with fail
          go_big_region
          all_goals go_wp2_with fail
          go_roundw
          case rel =>
            refine ⟨t + 1, by omega, by rw [HK.out]; go_num, H1.out, ?_⟩
            exact only_setCell (only_setCell (only_drew hw) (.inl rfl) _) (.inl rfl) _
          case measure => simp [intOf]; omega
        · obtain rfl : t = lo := by omega
          have hkz : k = z := by have := HZ.out; omega
          subst hkz
          have hbt : decide ((k : Int) < (k : Int)) = false := by simp
          clear hk
          go_wp2_with fail
          (try simp only [Exit.inBlock, Exit.then]); refine bodyPost_ret (results_none rfl _ _ _) rfl ?_
          have h1 := hC.out
          have hBe : B = B.take t ++ B.drop t := (List.take_append_drop t B).symm
          refine ⟨rfl, B.take t ++ x :: B.drop t, ?_, ?_, by simpa using hB, hw⟩
          · exact List.perm_middle.trans (by rw [← hBe])
          · refine ins_sorted (by rw [← hBe]; exact HS.out) (fun s hs => ?_) (fun s hs => ?_)
            · obtain ⟨n, hn⟩ := List.getElem?_of_mem hs
              rw [List.getElem?_drop] at hn
              have := h1.2.2.2 (t + n) s (by omega) hn
              by_cases h : le x s
              · exact h
              · exact absurd h this
            · obtain ⟨n, hn⟩ := List.getElem?_of_mem hs
              rw [List.getElem?_take] at hn
              split at hn
              · rename_i hlt2
                have := h1.2.2.1 n s hlt2 hn
                exact (HT.out.total s x).resolve_right this
              · simp at hn
end Go.Proofs.Ytnfcigbiebbjdaa
