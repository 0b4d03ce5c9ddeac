/-
  Johnson's order, where the times are valid: the order is sorted by his rule; its length is told.
  Conditions: the times are valid; the slices start at the heads of blocks.
-/
import Derived.Test.YtnfcigbiebbjdaaBench
namespace Go.Proofs.Ytnfcigbiebbjdaa
open Go.RowKit

theorem own_slice {w : World} {base E s : Nat} {v : Value} {n : Nat} {xs : List Value} (h : w.ownsRow base E s v n xs) : ∃ A c, v = .slice A n c := by
  rcases h.2 with ⟨h1, h2⟩ | ⟨g, cap, cur, h1, _⟩
  · exact ⟨none, 0, by rw [h1, h2]⟩
  · exact ⟨_, _, h1⟩
theorem small_mem {l : List Int} (h : Small l) : ∀ x ∈ l, 0 ≤ x ∧ x ≤ 10000 := fun x hx => by
  obtain ⟨k, hk⟩ := List.getElem?_of_mem hx
  have := h k
  rw [iat_nat, List.getD_eq_getElem?_getD, hk] at this
  exact this

set_option maxHeartbeats 1000000 in
theorem benches_yes (A B : Option Addr) (n c d : Nat) (f s : List Int) (w : World) (rA : RowH w A n f) (rB : RowH w B n s) (sf : Small f) (ss : Small s) (hn : n ≤ 64) :
    Calls Try.prog 58 #[.slice A n c, .slice B n d] w fun e w' => e = .returned (.bool true) ∧ Below w.heap.size w w' := by
  have hb0 : Below w.heap.size w (w.alloc (.cells #[.slice A n c, .slice B n d] 23)) := (Below.refl _ _).alloc (Nat.le_refl _) _
  have M := Lib.hid (concat_any A B n c n d w.heap.size f s _ (Blk.new w 23 #[.slice A n c, .slice B n d]) (rA.later hb0) (rB.later hb0) (by omega) (by omega))
  have HA := Lib.hid (small_mem sf)
  have HB := Lib.hid (small_mem ss)
  have hlA := rA.1
  have hlB := rB.1
  clear rA rB sf ss
  go_enter Try.func58, Try.ntmps58
  go_wp2_with fail
  refine M.out.mono ?_
  rintro e w1 ⟨v, rfl, hown, hb1⟩
  simp only [if_neg (show ¬ (2 : Nat) = 0 by omega), if_neg (show ¬ (2 : Nat) = 1 by omega), hlA, hlB] at hown
  obtain ⟨A', c', rfl⟩ := own_slice hown
  have hR := own_rowH hown
  have hb2 := hb0.trans (hb1.mono (by simp))
  have HF : Hid (∀ x ∈ f ++ s, 0 ≤ x ∧ x ≤ 10000) := fun x hx => by
    rcases List.mem_append.1 hx with h | h
    · exact HA.out x h
    · exact HB.out x h
  clear hown hb0 hb1 M HA HB hlA hlB
  generalize f ++ s = L at *
  obtain ⟨N, hN⟩ : ∃ N, N = n + n := ⟨_, rfl⟩
  rw [← hN] at hR ⊢
  have hN1 : N ≤ 128 := by omega
  clear hN
  go_wp2_with fail
  go_loopw [12] (fun i wr => ∃ k : Nat, k ≤ N ∧ i = .int .i64 k ∧ w1 = wr) (fun i _ => N - (intOf i).toNat)
  case atStart => exact ⟨0, Nat.zero_le _, rfl, rfl⟩
  case round =>
    obtain ⟨k, hk, rfl, rfl⟩ := hrel
    by_cases hlt : k < N
    · have hbt : decide ((k : Int) < (N : Int)) = true := by simp; omega
      have hbt2 : (k : Int) < (N : Int) := by omega
      obtain ⟨g, rfl, hg, hc⟩ := hR.at_ hlt
      have hx := HF.out _ (List.mem_of_getElem? (getD_get (by rw [hR.1]; exact hlt)))
      generalize L.getD k 0 = x at *
      obtain ⟨x0, x1⟩ := hx
      have d1 : decide (x < 0) = false := by simp; omega
      have d2 : decide (x > 10000) = false := by simp; omega
      have d3 : ¬ (10000 : Int) < x := by omega
      have d4 : ¬ x < 0 := by omega
      go_wp2_with fail
      go_roundw
      case rel => exact ⟨k + 1, by omega, by go_num, trivial⟩
      case measure => simp [intOf]; omega
    · obtain rfl : k = N := by omega
      have hbt : decide ((k : Int) < (k : Int)) = false := by simp
      have d1 : ((n : Int) == (n : Int)) = true := by simp
      have d2 : decide ((n : Int) ≤ 64) = true := by simp; omega
      have d3 : (n : Int) ≤ 64 := by omega
      go_wp2_with fail
      go_ret
      exact ⟨rfl, hb2⟩
end Go.Proofs.Ytnfcigbiebbjdaa
