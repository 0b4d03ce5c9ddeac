/-
  The contract of the reference's Pushed.
  Conditions: the slice starts at the head of a block.
-/
import Derived.Test.YtjlnkghjiaglmaaLaps
namespace Go.Proofs.Ytjlnkghjiaglmaa
open Go.RowKit

/-- Are the pushes valid, and the time? -/
def pushedB (n : Nat) (at_ : Int) (l : List (Int × Int)) : Bool := decide (n ≤ 1000) && (decide (0 ≤ at_ ∧ at_ ≤ 1000000000) && ordL 0 l)
theorem pushed_many {n : Nat} {at_ : Int} {l : List (Int × Int)} (h : ¬ n ≤ 1000) : pushedB n at_ l = false := by unfold pushedB; rw [decide_eq_false h]; rfl
theorem pushed_off {n : Nat} {at_ : Int} {l : List (Int × Int)} (h : ¬ (0 ≤ at_ ∧ at_ ≤ 1000000000)) : pushedB n at_ l = false := by unfold pushedB; rw [decide_eq_false h, Bool.false_and, Bool.and_false]
theorem pushed_in {n : Nat} {at_ : Int} {l : List (Int × Int)} (h : n ≤ 1000) (h2 : 0 ≤ at_ ∧ at_ ≤ 1000000000) : pushedB n at_ l = ordL 0 l := by unfold pushedB; rw [decide_eq_true h, decide_eq_true h2, Bool.true_and, Bool.true_and]

/-- The time ahead of an element. -/
def Prev (l : List (Int × Int)) (k : Nat) (u : Int) : Prop := (k = 0 ∧ u = 0) ∨ ∃ j b, k = j + 1 ∧ l[j]? = some (u, b) ∧ 0 ≤ u

set_option maxHeartbeats 1000000 in
theorem rPushed_any (A : Option Addr) (n cap : Nat) (l : List (Int × Int)) (at_ : Int) (w : World) (hr : Row2 w A n l) (hn : n ≤ 140737488351232) :
    Calls Try.prog 34 #[.slice A n cap, .int .i64 at_] w fun e w' => e = .returned (.bool (pushedB n at_ l)) ∧ Below w.heap.size w w' := by
  by_cases hn1 : n ≤ 1000
  · by_cases ha : 0 ≤ at_ ∧ at_ ≤ 1000000000
    · rw [pushed_in hn1 ha]
      obtain ⟨a1, a2⟩ := ha
      go_enter Try.func34, Try.ntmps34
      go_wp2_with (go_at_call 68; refine (in_yes _ _ _ _ a1 a2).mono ?_; rintro e w' ⟨rfl, rfl⟩)
      go_loopw [5] (fun i wr => ∃ (k : Nat) (u : Int), k ≤ n ∧ i = .int .i64 k ∧ Prev l k u ∧ Hid (ordL 0 l = ordL u (l.drop k)) ∧ Below w.heap.size w wr) (fun i _ => n - (intOf i).toNat)
      case atStart => exact ⟨0, 0, Nat.zero_le _, rfl, .inl ⟨rfl, rfl⟩, rfl, Below.refl _ _⟩
      case round =>
        obtain ⟨k, u, hk, rfl, hp, ho, hb⟩ := hrel
        by_cases hlt : k < n
        · obtain ⟨g, t, b, rfl, hg, hx, hc1, hc2⟩ := (hr.later hb).at_ hlt
          have hX := Lib.hid hx
          clear hx
          have hz := hb.size
          have hL := later_cell (w := wr)
          have hu : 0 ≤ u := by rcases hp with ⟨_, rfl⟩ | ⟨_, _, _, _, h⟩; exact Int.le_refl _; exact h
          by_cases v1 : 0 ≤ t ∧ t ≤ 1000000000
          · obtain ⟨t1, t2⟩ := v1
            by_cases v2 : 1 ≤ b ∧ b ≤ 3
            · obtain ⟨b1, b2⟩ := v2
              rcases hp with ⟨rfl, rfl⟩ | ⟨j, b', rfl, hj, _⟩
              · have HO := Lib.hid (Eq.trans ho.out (ordL_yes hX.out ⟨b1, b2, t1, t2⟩))
                clear ho
                go_wp2_with fail
                refine wp_region_later (by kernel_rfl) (by kernel_rfl) ?_
                repeat (go_big_quiet_step ((go_at_call 68; exact later_same (in_yes _ _ _ _ (by omega) (by omega)))))
                refine wpQuiet_nil ?_
                rintro w' ⟨⟨w2, hb2⟩, rfl⟩
                clear hL
                go_wp2_with fail
                go_roundw
                case rel => exact ⟨1, t, by omega, by go_num, .inr ⟨0, b, rfl, hX.out, t1⟩, HO.out, hb.trans (hb2.mono (by omega))⟩
                case measure => simp [intOf]; omega
              · obtain ⟨g', u', b'', e', hg', hx', hd1, hd2⟩ := (hr.later hb).at_ (k := j) (by omega)
                cases e'
                rw [hj] at hx'
                cases hx'
                clear hd2
                by_cases v3 : u ≤ t
                · have HO := Lib.hid (Eq.trans ho.out (ordL_yes hX.out ⟨b1, b2, v3, t2⟩))
                  clear ho
                  go_wp2_with fail
                  refine wp_region_later (by kernel_rfl) (by kernel_rfl) ?_
                  repeat (go_big_quiet_step ((go_at_call 68; exact later_same (in_yes _ _ _ _ (by omega) (by omega)))))
                  refine wpQuiet_nil ?_
                  rintro w' ⟨⟨w2, hb2⟩, rfl⟩
                  clear hL
                  go_wp2_with fail
                  go_roundw
                  case rel => exact ⟨j + 1 + 1, t, by omega, by go_num, .inr ⟨j + 1, b, rfl, hX.out, t1⟩, HO.out, hb.trans (hb2.mono (by omega))⟩
                  case measure => simp [intOf]; omega
                · have HO := Lib.hid (Eq.trans ho.out (ordL_no hX.out (fun h => v3 h.2.2.1)))
                  clear ho
                  go_wp2_with fail
                  refine wp_region_later (by kernel_rfl) (by kernel_rfl) ?_
                  repeat (go_big_quiet_step ((go_at_call 68; exact later_same (in_yes _ _ _ _ (by omega) (by omega)))))
                  refine wpQuiet_nil ?_
                  rintro w' ⟨⟨w2, hb2⟩, rfl⟩
                  clear hL
                  go_wp2_with fail
                  go_ret
                  exact ⟨by rw [HO.out]; rfl, hb.trans (hb2.mono (by omega))⟩
            · have HO := Lib.hid (Eq.trans ho.out (ordL_no hX.out (fun h => v2 ⟨h.1, h.2.1⟩)))
              have V2 := Lib.hid v2
              clear ho v2 hp
              go_wp2_with fail
              refine wp_region_later (by kernel_rfl) (by kernel_rfl) ?_
              repeat (go_big_quiet_step (first | (go_at_call 68; exact later_same (in_yes _ _ _ _ (by omega) (by omega))) | (go_at_call 68; exact later_same (in_no _ _ _ _ V2.out))))
              refine wpQuiet_nil ?_
              rintro w' ⟨⟨w2, hb2⟩, rfl⟩
              clear hL
              go_wp2_with fail
              go_ret
              exact ⟨by rw [HO.out]; rfl, hb.trans (hb2.mono (by omega))⟩
          · have HO := Lib.hid (Eq.trans ho.out (ordL_no hX.out (fun h => v1 ⟨by omega, h.2.2.2⟩)))
            have V1 := Lib.hid v1
            clear ho v1 hp
            go_wp2_with fail
            refine wp_region_later (by kernel_rfl) (by kernel_rfl) ?_
            repeat (go_big_quiet_step ((go_at_call 68; exact later_same (in_no _ _ _ _ V1.out))))
            refine wpQuiet_nil ?_
            rintro w' ⟨⟨w2, hb2⟩, rfl⟩
            clear hL
            go_wp2_with fail
            go_ret
            exact ⟨by rw [HO.out]; rfl, hb.trans (hb2.mono (by omega))⟩
        · have HO := Lib.hid (show ordL 0 l = true by rw [ho.out, List.drop_of_length_le (by rw [hr.1]; omega)]; rfl)
          clear ho
          go_wp2_with fail
          go_ret
          exact ⟨by rw [HO.out]; rfl, hb⟩
    · rw [pushed_off ha]
      have HA := Lib.hid ha
      clear ha
      go_enter Try.func34, Try.ntmps34
      go_wp2_with (go_at_call 68; refine (in_no _ _ _ _ HA.out).mono ?_; rintro e w' ⟨rfl, rfl⟩)
      go_ret
      exact ⟨rfl, Below.refl _ _⟩
  · rw [pushed_many hn1]
    go_enter Try.func34, Try.ntmps34
    go_wp2_with fail
    go_ret
    exact ⟨rfl, Below.refl _ _⟩
end Go.Proofs.Ytjlnkghjiaglmaa
