/-
  The contract of Wrong of package dial.
  Conditions: none.
-/
import Derived.Test.YtjlnkghjiaglmaaWmath
import Derived.Test.YtjlnkghjiaglmaaSets2
import Derived.Test.YtjlnkghjiaglmaaSame
namespace Go.Proofs.Ytjlnkghjiaglmaa
open Go.RowKit

theorem first_go {p : Nat → Bool} {k n : Nat} (h : k ≤ n) (hp : p k = false) : Fc.first p k (n + 1 - k) = Fc.first p (k + 1) (n + 1 - (k + 1)) := by
  obtain ⟨j, rfl⟩ : ∃ j, n = k + j := ⟨n - k, by omega⟩
  rw [show k + j + 1 - k = j + 1 by omega, show k + j + 1 - (k + 1) = j by omega]
  unfold Fc.first
  rw [if_neg (by rw [hp]; exact Bool.false_ne_true)]
  cases j <;> rfl
theorem first_hit {p : Nat → Bool} {k n : Nat} (h : k ≤ n) (hp : p k = true) : Fc.first p k (n + 1 - k) = k := by
  obtain ⟨j, rfl⟩ : ∃ j, n = k + j := ⟨n - k, by omega⟩
  rw [show k + j + 1 - k = j + 1 by omega]
  unfold Fc.first
  rw [if_pos hp]

theorem Wrong_ok {y m d : Int} (h : Cal.ok y m d) : (Fc.set y m d 0).ok := by
  obtain ⟨h1, h2, h3, h4, h5, h6⟩ := h
  refine ⟨h3, h4, ?_, ?_, h5, ?_, ?_, ?_, ?_, ?_⟩
  · show 0 ≤ y % 4; omega
  · show y % 4 ≤ 3; omega
  · show d ≤ Cal.dl m (y % 4 == 0)
    by_cases hb : m = 2 ∧ y % 4 = 0 ∧ Cal.lp y = false
    · obtain ⟨rfl, h40, hlf⟩ := hb
      have a1 : Cal.dl 2 (y % 4 == 0) = 29 := by rw [h40]; rfl
      have a2 : Cal.dl 2 (Cal.lp y) = 28 := by rw [hlf]; rfl
      omega
    · rw [Fc.dl_face m y hb]; exact h6
  · show 0 ≤ (Cal.num y m d + 1) % 7; omega
  · show (Cal.num y m d + 1) % 7 ≤ 6; omega
  · show (0 : Int) ≤ 0; omega
  · show (0 : Int) ≤ 58; omega

set_option maxHeartbeats 4000000 in
theorem Wrong_yes (y m d : Int) (n : Nat) (w : World) (h : Cal.ok y m d) (hn : n ≤ 100000) (hmax : Cal.num y m d + n ≤ 3652058) :
    Calls Try.prog 58 #[D3 y m d, .int .i64 (n : Int)] w fun e w' => e = .returned (.tuple #[.int .i64 (Fc.first (Fc.badB (Fc.set y m d 0) (y, m, d)) 0 (n + 1)), .int .i64 0]) ∧ Below w.heap.size w w' := by
  have hnb := Cal.num_bd h
  have M1 := Lib.hid fun w => Lib.hid (Set_yes y m d 0 w h (by omega) (by omega))
  have M2 := Lib.hid fun w => Lib.hid (number_any y m d w h)
  have hdays : Hid (∀ k : Nat, k ≤ n → Cal.okT (Cal.days k (y, m, d)) ∧ Cal.numT (Cal.days k (y, m, d)) = Cal.num y m d + k) := fun k hk => Cal.days_ok (x := (y, m, d)) h k (by show Cal.num y m d + k ≤ _; omega)
  have M3 : Hid (∀ k : Nat, k ≤ n → ∀ w, Hid (Calls Try.prog 43 #[.int .i64 (Cal.num y m d + (k : Int))] w fun e w' => e = .returned (.tuple #[D3 (Cal.days k (y, m, d)).1 (Cal.days k (y, m, d)).2.1 (Cal.days k (y, m, d)).2.2, .int .i64 0]) ∧ Below w.heap.size w w')) :=
    fun k hk w => by
      have := hdays.out k hk
      rw [← this.2]
      exact Date_yes _ _ _ w this.1
  have hf0 := Lib.hid (Wrong_ok h)
  have hall := Lib.hid (Fc.nights_ok hf0.out)
  generalize Fc.set y m d 0 = f at *
  generalize Cal.num y m d = N at *
  clear h hf0
  have hA0 := Blk.new w 30 #[.int .i64 y, .int .i64 m, .int .i64 d]
  go_enter Try.func58, Try.ntmps58
  go_wp2_with fail
  refine (M1.out _).out.mono ?_; rintro e w1 ⟨rfl, hb1⟩
  have hA1 := hA0.later hb1
  have hw1 : Below w.heap.size w w1 := ((Below.refl _ _).alloc (Nat.le_refl _) _).trans (hb1.mono (by simp))
  have lA1 := hA1.lt
  have kA := hA1.cell
  go_wp2_with fail
  refine (M2.out _).out.mono ?_; rintro e w2 ⟨rfl, hb2⟩
  have hA2 := (hA1.alloc _).later hb2
  have hF2 := (Blk.new w1 52 f.cells).later hb2
  have hw2 := (hw1.alloc (by omega) _).trans (hb2.mono (by simp; omega))
  have lA2 := hA2.lt
  have lF2 := hF2.lt
  clear kA
  have kA := hA2.cell
  go_wp2_with fail
  refine (M3.out n (Nat.le_refl _) _).out.mono ?_; rintro e w3 ⟨rfl, hb3⟩
  have hA3 := hA2.later hb3
  have hF3 := hF2.later hb3
  have hw3 := hw2.trans (hb3.mono (by omega))
  have lA3 := hA3.lt
  have lF3 := hF3.lt
  clear kA hA0 hA1 hA2 hF2 hw1 hw2 hb1 hb2 hb3
  go_wp2_with fail
  go_loopw [40] (fun i wr => ∃ k : Nat, k ≤ n + 1 ∧ i = .int .i64 k ∧ Hid (Fc.first (Fc.badB f (y, m, d)) 0 (n + 1) = Fc.first (Fc.badB f (y, m, d)) k (n + 1 - k)) ∧ Blk wr w.heap.size 30 #[.int .i64 y, .int .i64 m, .int .i64 d] ∧ Blk wr w1.heap.size 52 (Fc.nights k f).cells ∧ Below w.heap.size w wr)
    (fun i _ => n + 1 - (intOf i).toNat)
  case atStart => exact ⟨0, by omega, rfl, rfl, hA3.alloc _, hF3.alloc _, hw3.alloc (by omega) _⟩
  case round =>
    clear hA3 hF3 hw3
    obtain ⟨k, hk, rfl, HF, hAr, hFr, hbr⟩ := hrel
    have lAr := hAr.lt
    have lFr := hFr.lt
    have kA := hAr.cell
    by_cases hlt : k ≤ n
    · have hok := hall.out k
      have hD := Lib.hid ((hdays.out k hlt).1)
      have M3k := M3.out k hlt
      have HB : Hid (Fc.badB f (y, m, d) k = !(Fc.nights k f).showsB (Cal.days k (y, m, d)).1 (Cal.days k (y, m, d)).2.1 (Cal.days k (y, m, d)).2.2) := rfl
      generalize Cal.days k (y, m, d) = z at *
      obtain ⟨y', m', d'⟩ := z
      have M4 := Lib.hid fun w => Lib.hid (shows_any (Fc.nights k f) y' m' d' w hD.out)
      have M5 := Lib.hid fun w => Lib.hid (midnight_any (Fc.nights k f) w hok)
      have M3K := Lib.hid M3k
      clear hok M3k
      cases hs : (Fc.nights k f).showsB y' m' d' with
      | true =>
        have HS := Lib.hid hs
        rw [hs] at M4
        clear hs
        go_wp2_with fail
        refine (M2.out _).out.mono ?_; rintro e w4 ⟨rfl, hb4⟩
        have hA4 := hAr.later hb4
        have hF4 := hFr.later hb4
        have s4 := hb4.size
        go_wp2_with fail
        refine (M3K.out _).out.mono ?_; rintro e w5 ⟨rfl, hb5⟩
        have hA5 := hA4.later hb5
        have hF5 := hF4.later hb5
        have s5 := hb5.size
        have lF5 := hF5.lt
        have kF := hF5.cell
        clear kA
        go_wp2_with fail
        refine (M4.out _).out.mono ?_; rintro e w6 ⟨rfl, hb6⟩
        have hA6 := (hA5.alloc _).later hb6
        have hF6 := (hF5.alloc _).later hb6
        have s6 := hb6.size
        simp at s6
        clear kF
        have lF6 := hF6.lt
        have kF := hF6.cell
        go_wp2_with fail
        refine (M5.out _).out.mono ?_; rintro e w7 ⟨rfl, hb7⟩
        have hA7 := hA6.later hb7
        have hF7 := hF6.later hb7
        have s7 := hb7.size
        clear kF
        have lF7 := hF7.lt
        have kF := hF7.cell
        have fF := hF7.frozen
        go_wp2_with fail
        go_roundw
        case rel =>
          refine ⟨k + 1, by omega, by go_num, ?_, ?_, ?_, ?_⟩
          · show _ = _
            rw [HF.out, first_go hlt (by rw [HB.out]; show (!Fc.showsB _ y' m' d') = _; rw [HS.out]; rfl)]
          · exact ((((hA7.far (by simp; omega) _).far (by simp; omega) _).far (by simp; omega) _).far (by simp; omega) _).far (by simp; omega) _
          · exact ((((hF7.set_ 0 _).set_ 1 _).set_ 2 _).set_ 3 _).set_ 4 _
          · have t := (((hbr.trans (hb4.mono (by omega))).trans (hb5.mono (by omega))).alloc (by omega) (.cells #[.int .i64 y', .int .i64 m', .int .i64 d'] 30)).trans (hb6.mono (by simp; omega))
            have t2 := t.trans (hb7.mono (by omega))
            exact ((((t2.setCell (by simp; omega) _).setCell (by simp; omega) _).setCell (by simp; omega) _).setCell (by simp; omega) _).setCell (by simp; omega) _
        case measure => simp [intOf]; omega
      | false =>
        have HS := Lib.hid hs
        rw [hs] at M4
        clear hs
        go_wp2_with fail
        refine (M2.out _).out.mono ?_; rintro e w4 ⟨rfl, hb4⟩
        have hF4 := hFr.later hb4
        have s4 := hb4.size
        go_wp2_with fail
        refine (M3K.out _).out.mono ?_; rintro e w5 ⟨rfl, hb5⟩
        have hF5 := hF4.later hb5
        have s5 := hb5.size
        have lF5 := hF5.lt
        have kF := hF5.cell
        clear kA
        go_wp2_with fail
        refine (M4.out _).out.mono ?_; rintro e w6 ⟨rfl, hb6⟩
        clear kF
        go_wp2_with fail
        go_ret2
        refine ⟨?_, (((hbr.trans (hb4.mono (by omega))).trans (hb5.mono (by omega))).alloc (by omega) _).trans (hb6.mono (by simp; omega))⟩
        rw [HF.out, first_hit hlt (by rw [HB.out]; show (!Fc.showsB _ y' m' d') = _; rw [HS.out]; rfl)]
        rfl
    · obtain rfl : k = n + 1 := by omega
      go_wp2_with fail
      go_ret2
      refine ⟨?_, hbr⟩
      rw [HF.out, Nat.sub_self]
      rfl

set_option maxHeartbeats 1000000 in
theorem Wrong_no (y m d n : Int) (w : World) (h : ¬ (Cal.ok y m d ∧ 0 ≤ n ∧ n ≤ 100000 ∧ Cal.num y m d + n ≤ 3652058)) :
    Calls Try.prog 58 #[D3 y m d, .int .i64 n] w fun e w' => e = .returned (.tuple #[.int .i64 0, .int .i64 1]) ∧ Below w.heap.size w w' := by
  have hA0 := Blk.new w 30 #[.int .i64 y, .int .i64 m, .int .i64 d]
  by_cases hd : Cal.ok y m d
  · have M1 := Lib.hid fun w => Lib.hid (Set_yes y m d 0 w hd (by omega) (by omega))
    have M2 := Lib.hid fun w => Lib.hid (number_any y m d w hd)
    have hnb := Cal.num_bd hd
    have hcase : n < 0 ∨ (0 ≤ n ∧ 100000 < n) ∨ (0 ≤ n ∧ n ≤ 100000 ∧ 3652058 < Cal.num y m d + n) := by
      by_cases h0 : 0 ≤ n
      · by_cases h1 : n ≤ 100000
        · right; right
          refine ⟨h0, h1, ?_⟩
          have : ¬ Cal.num y m d + n ≤ 3652058 := fun h2 => h ⟨hd, h0, h1, h2⟩
          omega
        · right; left; omega
      · left; omega
    have M3 : 3652058 < Cal.num y m d + n → Hid (∀ w, Hid (Calls Try.prog 43 #[.int .i64 (Cal.num y m d + n)] w fun e w' => e = .returned (.tuple #[D3 0 0 0, .int .i64 1]) ∧ Below w.heap.size w w')) := fun h3 w => Date_no _ w (by omega)
    unfold Fc.set at M1
    generalize Cal.num y m d = N at *
    clear hd h
    rcases hcase with h0 | ⟨h0, h1⟩ | ⟨h0, h1, h2⟩
    · clear M3
      go_enter Try.func58, Try.ntmps58
      go_wp2_with fail
      refine (M1.out _).out.mono ?_; rintro e w1 ⟨rfl, hb1⟩
      have s1 := hb1.size
      simp at s1
      go_wp2_with fail
      go_ret2
      exact ⟨rfl, (((Below.refl _ _).alloc (Nat.le_refl _) _).trans (hb1.mono (by simp))).alloc (by omega) _⟩
    · clear M3
      go_enter Try.func58, Try.ntmps58
      go_wp2_with fail
      refine (M1.out _).out.mono ?_; rintro e w1 ⟨rfl, hb1⟩
      have s1 := hb1.size
      simp at s1
      go_wp2_with fail
      go_ret2
      exact ⟨rfl, (((Below.refl _ _).alloc (Nat.le_refl _) _).trans (hb1.mono (by simp))).alloc (by omega) _⟩
    · have M4 := M3 h2
      clear M3
      go_enter Try.func58, Try.ntmps58
      go_wp2_with fail
      refine (M1.out _).out.mono ?_; rintro e w1 ⟨rfl, hb1⟩
      have hA1 := hA0.later hb1
      have kA := hA1.cell
      have lA := hA1.lt
      go_wp2_with fail
      refine (M2.out _).out.mono ?_; rintro e w2 ⟨rfl, hb2⟩
      have s2 := hb2.size
      simp at s2
      clear kA
      go_wp2_with fail
      refine (M4.out _).out.mono ?_; rintro e w3 ⟨rfl, hb3⟩
      have s3 := hb3.size
      go_wp2_with fail
      go_ret2
      exact ⟨rfl, (((((((Below.refl _ _).alloc (Nat.le_refl _) _).trans (hb1.mono (by simp))).alloc (by omega) _).trans (hb2.mono (by simp; omega)))).trans (hb3.mono (by omega))).alloc (by omega) _⟩
  · have M1 := Lib.hid fun w => Lib.hid (Set_no y m d 0 w fun h => hd h.1)
    clear hd h
    go_enter Try.func58, Try.ntmps58
    go_wp2_with fail
    refine (M1.out _).out.mono ?_; rintro e w1 ⟨rfl, hb1⟩
    have s1 := hb1.size
    simp at s1
    go_wp2_with fail
    go_ret2
    exact ⟨rfl, (((Below.refl _ _).alloc (Nat.le_refl _) _).trans (hb1.mono (by simp))).alloc (by omega) _⟩
end Go.Proofs.Ytjlnkghjiaglmaa
