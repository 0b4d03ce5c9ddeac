/-
  The merge of two neighbouring runs where the right one is of one element.
  Conditions: as for the insertion.
-/
import Derived.Test.YtnfcigbiebbjdaaSort4
namespace Go.Proofs.Ytnfcigbiebbjdaa
open Go.RowKit

set_option maxRecDepth 100000 in
set_option maxHeartbeats 4000000 in
theorem merge_right {g : Nat} {cb : Array Value} {cf : Int → Int → Int} {w0 : World} {R : Nat} {D : Int → Prop} (C : Cmp g cb cf w0 R D) {le : Int → Int → Prop} (T : TotLe le)
    (P A Q : List Int) (y : Int) (cap : Nat) (w : World) (hD : D y ∧ ∀ x ∈ A, D x) (hX : ∀ x ∈ A, Agrees cf le x y) (sA : A.Pairwise le) (hA2 : 2 ≤ A.length) (hB : RowB w R (P ++ A ++ y :: Q)) (hw : w0.grownBy w (some R)) (a m b N : Nat)
    (ha : a = P.length) (hm : m = P.length + A.length) (hb : b = P.length + A.length + 1) (hN : N = (P ++ A ++ y :: Q).length) (hl : N ≤ 1000) :
    Calls Try.prog 92 #[.slice (some ⟨R, 0, none⟩) N cap, .int .i64 a, .int .i64 m, .int .i64 b, .func (.func g) #[] cb] w fun e w' =>
      e = .returned (.tuple #[]) ∧ ∃ C', C'.Perm (A ++ [y]) ∧ C'.Pairwise le ∧ RowB w' R (P ++ C' ++ Q) ∧ w0.grownBy w' (some R) := by
  have eg := C.enters
  have HC := Lib.hid C
  have HT := Lib.hid T
  have HX := Lib.hid hX
  have HD := Lib.hid hD
  have HS := Lib.hid sA
  clear C T hX hD sA
  have hlen := hN
  simp only [List.length_append, List.length_cons] at hlen
  have hab : a ≤ 1000 ∧ m ≤ 1000 ∧ b ≤ 1000 ∧ b ≤ N := by omega
  obtain ⟨ha1, hm1, hb1, hbN⟩ := hab
  obtain ⟨nA, hnA⟩ : ∃ nA, nA = A.length := ⟨_, rfl⟩
  have q1 : (m : Int) - (a : Int) = (nA : Int) := by omega
  have q0 : ((nA : Int) == 1) = false := by simp; omega
  have q2 : (b : Int) - (m : Int) = 1 := by omega
  have HL := Lib.hid (show m = a + A.length ∧ a = P.length ∧ b = m + 1 ∧ N = a + A.length + 1 + Q.length by omega)
  have HNA := Lib.hid hnA
  clear hnA
  clear hN ha hb hm hlen
  go_enter Try.func92, Try.ntmps92
  go_wp2_with fail
  go_loopw [14, 15] (fun u t wr => ∃ (lo hi : Nat), u = .int .i64 (a + lo : Nat) ∧ t = .int .i64 (a + hi : Nat) ∧ Hid (Cut (fun x => le x y) A lo hi) ∧ RowB wr R (P ++ A ++ y :: Q) ∧ w0.grownBy wr (some R)) (fun u t _ => (intOf t).toNat - (intOf u).toNat)
  case atStart =>
    have := HL.out
    exact ⟨0, A.length, by rw [Nat.add_zero], by congr 1; omega, ⟨Nat.zero_le _, Nat.le_refl _, fun t y h => by omega, fun t y h hy => by have := (List.getElem?_eq_some_iff.1 hy).1; omega⟩, hB, hw⟩
  case round =>
    clear hB hw
    obtain ⟨lo, hi, rfl, rfl, hC, hB, hw⟩ := hrel
    by_cases hlt : lo < hi
    · obtain ⟨i, hi'⟩ : ∃ i, i = a + lo := ⟨_, rfl⟩
      obtain ⟨j, hj'⟩ : ∃ j, j = a + hi := ⟨_, rfl⟩
      rw [← hi', ← hj']
      have hij : i < j := by omega
      have hj1 : j ≤ 1000 := by have := hC.out.2.1; have := HL.out; omega
      have hbt : decide ((i : Int) < (j : Int)) = true := by simp; omega
      have hbt2 : (i : Int) < (j : Int) := by omega
      have HI := Lib.hid hi'
      have HJ := Lib.hid hj'
      clear hi' hj'
      obtain ⟨t, ht⟩ : ∃ t, t = (lo + hi) / 2 := ⟨_, rfl⟩
      obtain ⟨h, hh⟩ : ∃ h, h = a + t := ⟨_, rfl⟩
      have q3 : ((i : Int) + (j : Int)) / 2 = (h : Int) := by have := HI.out; have := HJ.out; omega
      have ht1 : lo ≤ t ∧ t < hi := by omega
      have htA : t < A.length := by have := hC.out.2.1; omega
      obtain ⟨x, hx⟩ : ∃ x, A[t]? = some x := ⟨_, List.getElem?_eq_getElem htA⟩
      have cx : wr.cell? ⟨R, h, none⟩ = some (.int .i64 x) := hB.at_ (by
        have e : h = P.length + t := by have := HL.out; omega
        rw [e, List.append_assoc, List.getElem?_append_right (by omega), show P.length + t - P.length = t by omega, List.getElem?_append_left htA]; exact hx)
      have cy : wr.cell? ⟨R, m, none⟩ = some (.int .i64 y) := hB.at_ (by
        have e : m = (P ++ A).length := by rw [List.length_append]; have := HL.out; omega
        rw [e]; exact at_mid _ _ _)
      have lR := hB.lt
      have hh1 : h < N := by have := HL.out; omega
      have hmN : m < N := by have := HL.out; omega
      have hxA : x ∈ A := List.mem_of_getElem? hx
      have hag := Lib.hid (HX.out x hxA)
      have M : Hid (∀ z : Later wr, Hid (Calls Try.prog g (#[.int .i64 y, .int .i64 x] ++ cb) z.val fun e w' => e = .returned (.int .i64 (cf y x)) ∧ ∃ z2 : Later wr, w' = z2.val)) := fun z => later_call (HC.out.tells z.val (only_trans_below hw z.property) y x HD.out.1 (HD.out.2 x hxA))
      have hxl := later_cell (w := wr)
      have HH := Lib.hid hh
      have HTt := Lib.hid ht
      have HXx := Lib.hid hx
      clear hh ht hx hxA
      by_cases hlv : cf y x < 0
      · have hb6 : decide (cf y x < 0) = true := by simpa using hlv
        have NL := Lib.hid (hag.out.1 hlv)
        go_wp2_with fail
        refine wp_region_later (by kernel_rfl) (by kernel_rfl) ?_
        repeat (go_big_quiet_step ((first | (go_at_fn g; exact (M.out _).out))))
        refine wpQuiet_nil ?_
        rintro w2 ⟨⟨_, hb2⟩, rfl⟩
        have hB2 := hB.later hb2
        go_wp2_with fail
        go_roundw
        case rel =>
          refine ⟨lo, t, by rw [HI.out], by rw [HH.out], hC.out.high ht1.1 ht1.2 NL.out ?_, hB2, only_trans_below hw hb2⟩
          exact fun s z hs hz hp => HT.out.trans x z y (sorted_at HT.out HS.out hs HXx.out hz) hp
        case measure => have := HI.out; have := HJ.out; have := HH.out; simp [intOf]; omega
      · have hb6 : decide (cf y x < 0) = false := by simpa using hlv
        have NL : Hid (le x y) := by
          by_cases h : le x y
          · exact h
          · exact absurd (hag.out.2 h) hlv
        go_wp2_with fail
        refine wp_region_later (by kernel_rfl) (by kernel_rfl) ?_
        repeat (go_big_quiet_step ((first | (go_at_fn g; exact (M.out _).out))))
        refine wpQuiet_nil ?_
        rintro w2 ⟨⟨_, hb2⟩, rfl⟩
        have hB2 := hB.later hb2
        go_wp2_with fail
        go_roundw
        case rel =>
          refine ⟨t + 1, hi, by rw [HH.out]; go_num, by rw [HJ.out], hC.out.low ht1.2 NL.out ?_, hB2, only_trans_below hw hb2⟩
          exact fun s z hs hz hp => HT.out.trans z x y (sorted_at HT.out HS.out hs hz HXx.out) hp
        case measure => have := HI.out; have := HJ.out; have := HH.out; simp [intOf]; omega
    · obtain rfl : lo = hi := by have := hC.out.1; omega
      have hlA : lo ≤ A.length := hC.out.2.1
      obtain ⟨i, hi'⟩ : ∃ i, i = a + lo := ⟨_, rfl⟩
      rw [← hi']
      have hbt : decide ((i : Int) < (i : Int)) = false := by simp
      have hi1 : i ≤ 1000 := by have := HL.out; omega
      have hNb : N ≤ 1000 := hl
      have HI := Lib.hid hi'
      clear hi'
      go_wp2_with fail
      go_loopw [17] (fun u wr => ∃ t : Nat, lo ≤ t ∧ t ≤ nA ∧ u = .int .i64 (a + t : Nat) ∧ RowB wr R ((P ++ A.take t) ++ y :: (A.drop t ++ Q)) ∧ w0.grownBy wr (some R)) (fun u _ => (intOf u).toNat)
      case atStart =>
        have := HNA.out
        exact ⟨nA, by omega, Nat.le_refl _, by congr 1; have := HL.out; omega, by rw [this, List.take_length, List.drop_length]; simpa using hB, hw⟩
      case round =>
        clear hB hw
        obtain ⟨t, ht, htA, rfl, hB, hw⟩ := hrel
        by_cases hlt : lo < t
        · obtain ⟨t, rfl⟩ : ∃ s, t = s + 1 := ⟨t - 1, by omega⟩
          obtain ⟨p, hp⟩ : ∃ p, p = a + t := ⟨_, rfl⟩
          have ep : ((a + (t + 1) : Nat) : Int) = (p : Int) + 1 := by omega
          rw [ep]
          have hkz : (i : Int) < (p : Int) + 1 := by have := HI.out; omega
          have hkz2 : (i : Int) ≤ (p : Int) := by omega
          have hkz3 : i ≤ p := by omega
          obtain ⟨x, hx⟩ : ∃ x, A[t]? = some x := ⟨_, List.getElem?_eq_getElem (by have := HNA.out; omega)⟩
          have htk : A.take (t + 1) = A.take t ++ [x] := by rw [List.take_add_one, hx]; rfl
          have hd : A.drop t = x :: A.drop (t + 1) := by rw [List.drop_eq_getElem_cons (by have := HNA.out; omega), (List.getElem?_eq_some_iff.1 hx).2]
          rw [htk] at hB
          have e1 : p = (P ++ A.take t).length := by rw [List.length_append, List.length_take]; have := HL.out; have := HNA.out; omega
          have h0 : (P ++ (A.take t ++ [x])) ++ y :: (A.drop (t + 1) ++ Q) = (P ++ A.take t) ++ x :: y :: (A.drop (t + 1) ++ Q) := by simp
          rw [h0] at hB
          have cx : wr.cell? ⟨R, p, none⟩ = some (.int .i64 x) := hB.at_ (by rw [e1]; exact at_mid _ _ _)
          have cy : wr.cell? ⟨R, p + 1, none⟩ = some (.int .i64 y) := hB.at_ (by rw [e1]; exact at_mid1 _ _ _ _)
          have fx : wr.frozen? ⟨R, p, none⟩ = false := hB.frozen _
          have fy : wr.frozen? ⟨R, p + 1, none⟩ = false := hB.frozen _
          obtain ⟨p1, hp1⟩ : ∃ p1, p1 = p + 1 := ⟨_, rfl⟩
          have t1 : ((p : Int) + 1).toNat = p1 := by omega
          rw [← hp1] at cy fy
          have hne : p ≠ p1 := by omega
          have hpN : p + 1 < N := by have := HL.out; have := HNA.out; omega
          have j1 : (p : Int) + 1 < (N : Int) := by omega
          have j2 : (p : Int) < (N : Int) := by omega
          have k2 : (0 : Int) ≤ (p : Int) + 1 := by omega
          have hwp : IntKind.i64.wrap (p : Int) = (p : Int) := by rw [IntKind.wrap_i64]; omega
          have h1 := (hB.set_ p1 x).set_ p y
          have h2 := swap_next (P ++ A.take t) (A.drop (t + 1) ++ Q) x y
          rw [List.set_comm _ _ (by omega), ← e1, ← hp1] at h2
          rw [h2] at h1
          have h3 : (P ++ A.take t) ++ y :: x :: (A.drop (t + 1) ++ Q) = (P ++ A.take t) ++ y :: (A.drop t ++ Q) := by rw [hd]; simp
          rw [h3] at h1
          have H1 := Lib.hid h1
          have HP := Lib.hid hp
          clear h1 h2 h3 hd htk e1 hp hp1 hx h0 ep
          go_wp2_with fail
          go_big_region
          all_goals go_wp2_with fail
          go_roundw
          case rel =>
            refine ⟨t, by omega, by omega, by rw [HP.out], H1.out, ?_⟩
            exact only_setCell (only_setCell (only_drew hw) (.inl rfl) _) (.inl rfl) _
          case measure => simp [intOf]
        · obtain rfl : t = lo := by omega
          obtain ⟨k, hk⟩ : ∃ k, k = a + t := ⟨_, rfl⟩
          rw [← hk]
          have hkz : k = i := by have := HI.out; omega
          subst hkz
          have hbt : decide ((k : Int) < (k : Int)) = false := by simp
          clear hk
          go_wp2_with fail
          (try simp only [Exit.inBlock, Exit.then]); refine bodyPost_ret (results_none rfl _ _ _) rfl ?_
          have h1 := hC.out
          have hAe : A = A.take t ++ A.drop t := (List.take_append_drop t A).symm
          refine ⟨rfl, A.take t ++ y :: A.drop t, ?_, ?_, by simpa using hB, hw⟩
          · exact (List.perm_middle.trans (show (y :: (A.take t ++ A.drop t)).Perm ([y] ++ A) by rw [← hAe]; exact List.Perm.refl _)).trans (List.perm_append_comm (l₁ := [y]))
          · refine ins_sorted (by rw [← hAe]; exact HS.out) (fun s hs => ?_) (fun s hs => ?_)
            · obtain ⟨n, hn⟩ := List.getElem?_of_mem hs
              rw [List.getElem?_drop] at hn
              have := h1.2.2.2 (t + n) s (by omega) hn
              exact (HT.out.total s y).resolve_left this
            · obtain ⟨n, hn⟩ := List.getElem?_of_mem hs
              rw [List.getElem?_take] at hn
              split at hn
              · rename_i hlt2
                exact h1.2.2.1 n s hlt2 hn
              · simp at hn
end Go.Proofs.Ytnfcigbiebbjdaa
