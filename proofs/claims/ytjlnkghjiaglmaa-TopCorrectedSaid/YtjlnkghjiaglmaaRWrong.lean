/-
  The contracts of the reference's Next at every date and of its Wrong.
  Conditions: the date is valid; the numbers are small.
-/
import Derived.Test.YtjlnkghjiaglmaaWrong
import Derived.Test.YtjlnkghjiaglmaaCorr3
namespace Go.Proofs.Ytjlnkghjiaglmaa
open Go.RowKit

theorem Leap_9999 (w : World) : Calls Try.prog 25 #[.int .i64 9999] w fun e w' => e = .returned (.bool false) ∧ w = w' := Leap_any 9999 w (by omega)
theorem rLength_12 (w : World) : Calls Try.prog 24 #[.int .i64 12, .bool false] w fun e w' => e = .returned (.int .i64 31) ∧ Below w.heap.size w w' := rLength_any 12 false w (by omega) (by omega)

set_option maxHeartbeats 1000000 in
theorem Next_last (w : World) :
    Calls Try.prog 47 #[D3 9999 12 31] w fun e w' => e = .returned (.tuple #[D3 10000 1 1, .bool false]) ∧ Below w.heap.size w w' := by
  have hB := (Blk.new w 30 #[.int .i64 9999, .int .i64 12, .int .i64 32]).alloc (.cells #[.int .i64 0, .int .i64 0, .int .i64 0] 30)
  have hR := Blk.new1 w (.cells #[.int .i64 9999, .int .i64 12, .int .i64 32] 30) 30 #[.int .i64 0, .int .i64 0, .int .i64 0]
  have hx := later_cell (w := (w.alloc (.cells #[.int .i64 9999, .int .i64 12, .int .i64 32] 30)).alloc (.cells #[.int .i64 0, .int .i64 0, .int .i64 0] 30))
  go_enter Try.func47, Try.ntmps47
  go_wp2_with fail
  refine wp_region_later (by kernel_rfl) (by kernel_rfl) ?_
  repeat (go_big_quiet_step (first
    | (go_at_call 25; exact later_same (Leap_9999 _))
    | (go_at_call 24; exact later_call (rLength_12 _))))
  refine wpQuiet_nil ?_
  rintro w2 ⟨⟨_, hb2⟩, rfl⟩
  have hB2 := hB.later hb2
  have hR2 := hR.later hb2
  have hz1 := hB2.lt
  have hz2 := hR2.lt
  have hc1 := hB2.cell
  have hf1 := hB2.frozen
  have hc2 := hR2.cell
  have hf2 := hR2.frozen
  have hBW : Below w.heap.size w w2 := (((Below.refl _ _).alloc (Nat.le_refl _) _).alloc (by simp) _).trans (hb2.mono (by simp; omega))
  clear hx
  have hB5 := (hB2.set_ 2 (.int .i64 1)).set_ 1 (.int .i64 13)
  have hB6 := hB5.set_ 1 (.int .i64 1)
  have hB7 := hB6.set_ 0 (.int .i64 10000)
  have hc5 := hB5.cell
  have hf5 := hB5.frozen
  have hc6 := hB6.cell
  have hf6 := hB6.frozen
  have hc7 := hB7.cell
  go_wp2_with fail
  go_region
  go_wp2
  refine bodyPost_cell (w.heap.size + 1) 30 #[.int .i64 10000, .int .i64 1, .int .i64 1] (.tuple #[D3 10000 1 1, .bool false]) ?_ ?_ ⟨rfl, ?_⟩
  · exact (((((((hR2.far (p := ⟨w.heap.size, 2, none⟩) (by simp) _).far (p := ⟨w.heap.size, 1, none⟩) (by simp) _).far (p := ⟨w.heap.size, 1, none⟩) (by simp) _).far (p := ⟨w.heap.size, 0, none⟩) (by simp) _).set_ 0 _).set_ 1 _).set_ 2 _).drew
  · intro W' hW'
    simp [results, Try.results47, go_sem, hW']
  · exact ((((((((hBW.setCell (by simp) _).setCell (by simp) _).setCell (by simp) _).setCell (by simp) _).setCell (by simp) _).setCell (by simp) _).setCell (by simp) _)).drew

theorem Next_all (y m d : Int) (w : World) (h : Cal.ok y m d) :
    Calls Try.prog 47 #[D3 y m d] w fun e w' => e = .returned (.tuple #[D3 (nextOf y m d).1 (nextOf y m d).2.1 (nextOf y m d).2.2, .bool (decide ((nextOf y m d).1 ≤ 9999))]) ∧ Below w.heap.size w w' := by
  by_cases hy : (nextOf y m d).1 ≤ 9999
  · rw [decide_eq_true hy]
    exact Next_any y m d _ _ _ w h rfl hy
  · obtain ⟨h1, h2, h3, h4, h5, h6⟩ := h
    unfold nextOf at hy
    by_cases hd : d < Cal.dl m (Cal.lp y)
    · rw [if_pos hd] at hy; exact absurd h2 hy
    rw [if_neg hd] at hy
    by_cases hm : m < 12
    · rw [if_pos hm] at hy; exact absurd h2 hy
    rw [if_neg hm] at hy
    simp only at hy
    obtain rfl : y = 9999 := by omega
    obtain rfl : m = 12 := by omega
    have e : Cal.dl 12 (Cal.lp 9999) = 31 := by decide
    obtain rfl : d = 31 := by omega
    exact Next_last w

theorem shows_ne {f : Fc} {y m d : Int} (h : f.showsB y m d = true) : (f.D != d) = false ∧ (f.M != m) = false ∧ (f.W != (Cal.num y m d + 1) % 7) = false := by
  unfold Fc.showsB at h
  rw [decide_eq_true_eq] at h
  obtain ⟨h1, h2, h3⟩ := h
  exact ⟨by simp [h1], by simp [h2], by simp [h3]⟩
theorem shows_ne' {f : Fc} {y m d : Int} (h : f.showsB y m d = false) : (f.D != d) = true ∨ ((f.D != d) = false ∧ (f.M != m) = true) ∨ ((f.D != d) = false ∧ (f.M != m) = false ∧ (f.W != (Cal.num y m d + 1) % 7) = true) := by
  unfold Fc.showsB at h
  rw [decide_eq_false_iff_not] at h
  by_cases h1 : f.D = d
  · by_cases h2 : f.M = m
    · right; right
      exact ⟨by simp [h1], by simp [h2], by simpa using fun h3 => h ⟨h1, h2, h3⟩⟩
    · right; left; exact ⟨by simp [h1], by simpa using h2⟩
  · left; simpa using h1

set_option maxHeartbeats 4000000 in
theorem rWrong_any (y m d : Int) (n : Nat) (w : World) (h : Cal.ok y m d) (hn : n ≤ 100000) (hmax : Cal.num y m d + n ≤ 3652058) :
    Calls Try.prog 59 #[D3 y m d, .int .i64 (n : Int)] w fun e w' => e = .returned (.int .i64 (Fc.first (Fc.badB (Fc.set y m d 0) (y, m, d)) 0 (n + 1))) ∧ Below w.heap.size w w' := by
  have hnb := Cal.num_bd h
  have M1 := Lib.hid fun w => Lib.hid (rSet_any y m d 0 w h)
  have M2 := Lib.hid fun w => Lib.hid (rWeekday_any y m d w h)
  have hdays : Hid (∀ k : Nat, k ≤ n → Cal.okT (Cal.days k (y, m, d)) ∧ Cal.numT (Cal.days k (y, m, d)) = Cal.num y m d + k) := fun k hk => Cal.days_ok (x := (y, m, d)) h k (by show Cal.num y m d + k ≤ _; omega)
  have hall : Hid (∀ k, (Fc.nights k (Fc.set y m d 0)).ok) := by
    have := Wrong_ok h
    exact Fc.nights_ok this
  have hW : Hid (∀ k : Nat, k ≤ n → (Cal.numT (Cal.days k (y, m, d)) + 1) % 7 = (Cal.num y m d + 1 + k) % 7) := fun k hk => by rw [(hdays.out k hk).2]; congr 1; omega
  generalize Fc.set y m d 0 = f at *
  generalize Cal.num y m d = N at *
  clear h
  have hA0 := Blk.new w 30 #[.int .i64 y, .int .i64 m, .int .i64 d]
  go_enter Try.func59, Try.ntmps59
  go_wp2_with fail
  refine (M1.out _).out.mono ?_; rintro e w1 ⟨rfl, hb1⟩
  have hA1 := hA0.later hb1
  have hw1 : Below w.heap.size w w1 := ((Below.refl _ _).alloc (Nat.le_refl _) _).trans (hb1.mono (by simp))
  have lA1 := hA1.lt
  have kA := hA1.cell
  go_wp2_with fail
  refine (M2.out _).out.mono ?_; rintro e w2 ⟨rfl, hb2⟩
  have hA2 := (hA1.alloc _).later hb2
  have hF2 := (Blk.new w1 52 f.cells).later hb2
  have hw2 := (hw1.alloc (by omega) _).trans (hb2.mono (by simp; omega))
  clear kA hA0 hA1 hw1 hb1 hb2
  go_wp2_with fail
  go_loopw [7, 6] (fun i u wr => ∃ k : Nat, k ≤ n + 1 ∧ i = .int .i64 k ∧ u = .int .i64 ((N + 1 + (k : Int)) % 7) ∧ Hid (Fc.first (Fc.badB f (y, m, d)) 0 (n + 1) = Fc.first (Fc.badB f (y, m, d)) k (n + 1 - k)) ∧
      Blk wr w.heap.size 30 #[.int .i64 (Cal.days k (y, m, d)).1, .int .i64 (Cal.days k (y, m, d)).2.1, .int .i64 (Cal.days k (y, m, d)).2.2] ∧ Blk wr w1.heap.size 52 (Fc.nights k f).cells ∧ Below w.heap.size w wr)
    (fun i _ _ => n + 1 - (intOf i).toNat)
  case atStart => exact ⟨0, by omega, rfl, by simp, rfl, hA2, hF2, hw2⟩
  case round =>
    clear hA2 hF2 hw2
    obtain ⟨k, hk, rfl, rfl, HF, hAr, hFr, hbr⟩ := hrel
    have lAr := hAr.lt
    have lFr := hFr.lt
    have kA := hAr.cell
    have kF := hFr.cell
    by_cases hlt : k ≤ n
    · have hok := hall.out k
      have hD := Lib.hid ((hdays.out k hlt).1)
      have HB : Hid (Fc.badB f (y, m, d) k = !(Fc.nights k f).showsB (Cal.days k (y, m, d)).1 (Cal.days k (y, m, d)).2.1 (Cal.days k (y, m, d)).2.2) := rfl
      have HN : Hid (Cal.days (k + 1) (y, m, d) = nextOf (Cal.days k (y, m, d)).1 (Cal.days k (y, m, d)).2.1 (Cal.days k (y, m, d)).2.2) := rfl
      have hWk := Lib.hid (hW.out k hlt)
      generalize Cal.days k (y, m, d) = z at *
      obtain ⟨y', m', d'⟩ := z
      have M4 : Hid (∀ w, Hid (Calls Try.prog 53 #[(Fc.nights k f).val, .int .i64 1] w fun e w' => e = .returned (Fc.nights (k + 1) f).val ∧ Below w.heap.size w w')) := fun w => rMidnight_any (Fc.nights k f) 1 w hok (by omega) (by omega)
      have M5 := Lib.hid fun w => Lib.hid (Next_all y' m' d' w hD.out)
      clear hok
      simp only at HB HN hWk
      cases hs : (Fc.nights k f).showsB y' m' d' with
      | true =>
        have HS := Lib.hid hs
        obtain ⟨b1, b2, b3⟩ := shows_ne hs
        rw [show (Cal.num y' m' d' + 1) % 7 = (N + 1 + (k : Int)) % 7 from hWk.out] at b3
        clear hs
        generalize hz : nextOf y' m' d' = z' at *
        obtain ⟨y2, m2, d2⟩ := z'
        clear hz
        simp only at M5
        go_wp2_with fail
        refine (M4.out _).out.mono ?_; rintro e w4 ⟨rfl, hb4⟩
        have hA4 := hAr.later hb4
        have hF4 := hFr.later hb4
        have lF4 := hF4.lt
        have lA4 := hA4.lt
        have cF := hF4.cell
        have fF := hF4.frozen
        have hA5 := ((((hA4.far (p := ⟨w1.heap.size, 0, none⟩) (by simp; omega) (.int .i64 (Fc.nights (k + 1) f).D)).far (p := ⟨w1.heap.size, 1, none⟩) (by simp; omega) (.int .i64 (Fc.nights (k + 1) f).M)).far (p := ⟨w1.heap.size, 2, none⟩) (by simp; omega) (.int .i64 (Fc.nights (k + 1) f).L)).far (p := ⟨w1.heap.size, 3, none⟩) (by simp; omega) (.int .i64 (Fc.nights (k + 1) f).W)).far (p := ⟨w1.heap.size, 4, none⟩) (by simp; omega) (.int .i64 (Fc.nights (k + 1) f).O)
        have hF5 := ((((hF4.set_ 0 (.int .i64 (Fc.nights (k + 1) f).D)).set_ 1 (.int .i64 (Fc.nights (k + 1) f).M)).set_ 2 (.int .i64 (Fc.nights (k + 1) f).L)).set_ 3 (.int .i64 (Fc.nights (k + 1) f).W)).set_ 4 (.int .i64 (Fc.nights (k + 1) f).O)
        have cA := hA5.cell
        clear kA kF
        go_wp2_with fail
        refine (M5.out _).out.mono ?_; rintro e w5 ⟨rfl, hb5⟩
        have hA6 := hA5.later hb5
        have hF6 := hF5.later hb5
        have lF6 := hF6.lt
        have lA6 := hA6.lt
        have s4 := hb4.size
        have s5 := hb5.size
        simp [World.setCell] at s5
        clear cA cF fF
        have cA := hA6.cell
        have fA := hA6.frozen
        go_wp2_with fail
        go_roundw
        case rel =>
          refine ⟨k + 1, by omega, by go_num, ?_, ?_, ?_, ?_, ?_⟩
          · congr 1; omega
          · show _ = _
            rw [HF.out, first_go hlt (by rw [HB.out, HS.out]; rfl)]
          · rw [HN.out]
            exact ((hA6.set_ 0 _).set_ 1 _).set_ 2 _
          · exact ((hF6.far (by simp; omega) _).far (by simp; omega) _).far (by simp; omega) _
          · have t := ((((((hbr.trans (hb4.mono (by omega))).setCell (p := ⟨w1.heap.size, 0, none⟩) (by simp; omega) (.int .i64 (Fc.nights (k + 1) f).D)).setCell (p := ⟨w1.heap.size, 1, none⟩) (by simp; omega) (.int .i64 (Fc.nights (k + 1) f).M)).setCell (p := ⟨w1.heap.size, 2, none⟩) (by simp; omega) (.int .i64 (Fc.nights (k + 1) f).L)).setCell (p := ⟨w1.heap.size, 3, none⟩) (by simp; omega) (.int .i64 (Fc.nights (k + 1) f).W)).setCell (p := ⟨w1.heap.size, 4, none⟩) (by simp; omega) (.int .i64 (Fc.nights (k + 1) f).O)).trans (hb5.mono (by simp [World.setCell]; omega))
            exact ((t.setCell (by simp) _).setCell (by simp) _).setCell (by simp) _
        case measure => simp [intOf]; omega
      | false =>
        have HS := Lib.hid hs
        have hcase := shows_ne' hs
        rw [show (Cal.num y' m' d' + 1) % 7 = (N + 1 + (k : Int)) % 7 from hWk.out] at hcase
        clear hs
        rcases hcase with b1 | ⟨b1, b2⟩ | ⟨b1, b2, b3⟩
        all_goals
          go_wp2_with fail
          go_ret
          refine ⟨?_, hbr⟩
          rw [HF.out, first_hit hlt (by rw [HB.out, HS.out]; rfl)]
          rfl
    · obtain rfl : k = n + 1 := by omega
      go_wp2_with fail
      go_ret
      refine ⟨?_, hbr⟩
      rw [HF.out, Nat.sub_self]
      rfl
end Go.Proofs.Ytjlnkghjiaglmaa
