/-
  Whether a slice has each number below a limit once, as the document reads it.
  Conditions: the slice starts at the head of a block and is not longer than 1000.
-/
import Derived.Test.YtnfcigbiebbjdaaSorted
namespace Go.Proofs.Ytnfcigbiebbjdaa
open Go.RowKit

theorem in_any (v a b : Int) (w : World) : Calls Try.prog 52 #[.int .i64 v, .int .i64 a, .int .i64 b] w fun e w' => e = .returned (.bool (decide (a ≤ v) && decide (v ≤ b))) ∧ w = w' := by
  by_cases h1 : a ≤ v
  · have d1 : decide (a ≤ v) = true := by simpa using h1
    by_cases h2 : v ≤ b
    · have d2 : decide (v ≤ b) = true := by simpa using h2
      have H : Hid ((decide (a ≤ v) && decide (v ≤ b)) = true) := by show _ = _; rw [d1, d2]; rfl
      go_enter Try.func52, Try.ntmps52
      go_wp2
      go_ret
      exact ⟨by first | rfl | (rw [H.out]; rfl), rfl⟩
    · have d2 : decide (v ≤ b) = false := by simpa using h2
      have H : Hid ((decide (a ≤ v) && decide (v ≤ b)) = false) := by show _ = _; rw [d1, d2]; rfl
      go_enter Try.func52, Try.ntmps52
      go_wp2
      go_ret
      exact ⟨by first | rfl | (rw [H.out]; rfl), rfl⟩
  · have d1 : decide (a ≤ v) = false := by simpa using h1
    have H : Hid ((decide (a ≤ v) && decide (v ≤ b)) = false) := by show _ = _; rw [d1]; rfl
    go_enter Try.func52, Try.ntmps52
    go_wp2
    go_ret
    exact ⟨by first | rfl | (rw [H.out]; rfl), rfl⟩

/-- A Boolean that tells whether p holds. -/
def YesNo (p : Prop) (w : World) (e : Ending) (w' : World) : Prop := ∃ b : Bool, e = .returned (.bool b) ∧ (b = true ↔ p) ∧ Below w.heap.size w w'
/-- The first k are numbers below n, each once. -/
def OrdTo (n : Nat) (o : List Int) (k : Nat) : Prop := (o.take k).Nodup ∧ ∀ z ∈ o.take k, 0 ≤ z ∧ z < (n : Int)
theorem OrdTo.zero (n : Nat) (o : List Int) : OrdTo n o 0 := ⟨by simp, by simp⟩
theorem OrdTo.next {n : Nat} {o : List Int} {k : Nat} {x : Int} (h : OrdTo n o k) (hx : o[k]? = some x) (h0 : 0 ≤ x) (h1 : x < n) (hn : x ∉ o.take k) : OrdTo n o (k + 1) := by
  refine ⟨?_, ?_⟩
  · rw [List.take_add_one, hx, List.nodup_append]
    refine ⟨h.1, by simp, fun a ha b hb e => ?_⟩
    obtain rfl : b = x := by simpa using hb
    exact hn (e ▸ ha)
  · intro z hz
    rw [List.take_add_one, hx] at hz
    rcases List.mem_append.1 hz with hz | hz
    · exact h.2 z hz
    · obtain rfl : z = x := by simpa using hz
      exact ⟨h0, h1⟩
theorem OrdTo.done {n : Nat} {o : List Int} (h : OrdTo n o n) (hl : o.length = n) : isOrd n o := by
  have e : o.take n = o := List.take_of_length_le (by omega)
  unfold OrdTo at h
  rw [e] at h
  exact ⟨hl, h.1, h.2⟩
theorem not_mem_take_next {o : List Int} {j : Nat} {x y : Int} (h : x ∉ o.take j) (hy : o[j]? = some y) (hne : y ≠ x) : x ∉ o.take (j + 1) := by
  rw [List.take_add_one, hy]
  simp only [Option.toList_some, List.mem_append, List.mem_singleton, not_or]
  exact ⟨h, fun e => hne e.symm⟩

set_option maxHeartbeats 2000000 in
theorem Order_any (A : Option Addr) (m c n : Nat) (o : List Int) (w : World) (rA : RowH w A m o) (hm : m ≤ 1000) (hn : n ≤ 1000) :
    Calls Try.prog 20 #[.slice A m c, .int .i64 n] w (YesNo (isOrd n o) w) := by
  have hol := rA.1
  by_cases hmn : m = n
  case neg =>
    have d0 : ((m : Int) != (n : Int)) = true := by simp; omega
    have HN : Hid ((false = true) ↔ isOrd n o) := by
      show _ ↔ _
      constructor
      · intro h; cases h
      · intro h; have := h.1; omega
    go_enter Try.func20, Try.ntmps20
    go_wp2_with fail
    go_ret
    exact ⟨false, rfl, HN.out, Below.refl _ _⟩
  case pos =>
    subst hmn
    have d0 : ((m : Int) != (m : Int)) = false := by simp
    have H0 := Lib.hid (OrdTo.zero m o)
    go_enter Try.func20, Try.ntmps20
    go_wp2_with fail
    go_loopw [5] (fun i wr => ∃ k : Nat, k ≤ m ∧ i = .int .i64 k ∧ OrdTo m o k ∧ Below w.heap.size w wr) (fun i _ => m - (intOf i).toNat)
    case atStart => exact ⟨0, Nat.zero_le _, rfl, H0.out, Below.refl _ _⟩
    case round =>
      clear H0
      obtain ⟨k, hk, rfl, hO, hb⟩ := hrel
      by_cases hlt : k < m
      · obtain ⟨g, rfl, hg, hc⟩ := (rA.later hb).at_ hlt
        have hok : o[k]? = some (o.getD k 0) := getD_get (by rw [rA.1]; exact hlt)
        have hbt : decide ((k : Int) < (m : Int)) = true := by simp; omega
        have hbt2 : (k : Int) < (m : Int) := by omega
        have HK := Lib.hid hok
        have HO := Lib.hid hO
        clear hok hO
        generalize hx : o.getD k 0 = x at *
        have HX := Lib.hid hx
        clear hx
        have M := fun w => Lib.hid (in_any x 0 ((m : Int) - 1) w)
        have HM := Lib.hid M
        clear M
        by_cases hin : 0 ≤ x ∧ x ≤ (m : Int) - 1
        · rw [decide_eq_true hin.1, decide_eq_true hin.2] at HM
          go_wp2_with fail
          refine (HM.out _).out.mono ?_
          rintro e w' ⟨rfl, rfl⟩
          clear HM
          obtain ⟨x0, x1⟩ := hin
          go_wp2_with fail
          have HNM : Hid (x ∉ o.take 0) := by show _ ∉ _; simp
          go_loopw [6] (fun i wr => ∃ j : Nat, j ≤ k ∧ i = .int .i64 j ∧ Hid (x ∉ o.take j) ∧ Below w.heap.size w wr) (fun i _ => k - (intOf i).toNat)
          case atStart => exact ⟨0, Nat.zero_le _, rfl, HNM, hb⟩
          case round =>
            clear hc hg hb HNM
            obtain ⟨j, hj, rfl, hNM, hb⟩ := hrel
            by_cases hjk : j < k
            · have hbj : decide ((j : Int) < (k : Int)) = true := by simp; omega
              have hbj2 : (j : Int) < (k : Int) := by omega
              obtain ⟨g', e1, hg, hc⟩ := (rA.later hb).at_ hlt
              cases e1
              obtain ⟨g', e1, _, hd⟩ := (rA.later hb).at_ (show j < m by omega)
              cases e1
              rw [HX.out] at hc
              have hoj : o[j]? = some (o.getD j 0) := getD_get (by rw [rA.1]; omega)
              have HJ := Lib.hid hoj
              clear hoj
              generalize o.getD j 0 = y at *
              have hxl := later_cell (w := wr)
              by_cases hyx : y = x
              · subst hyx
                have hbe : (y == y) = true := by simp
                have HN : Hid ((false = true) ↔ isOrd m o) := by
                  show _ ↔ _
                  refine ⟨fun h => (by cases h), fun h => ?_⟩
                  exfalso
                  obtain ⟨p1, q1⟩ := List.getElem?_eq_some_iff.1 HJ.out
                  obtain ⟨p2, q2⟩ := List.getElem?_eq_some_iff.1 HK.out
                  exact (List.pairwise_iff_getElem.1 h.2.1) j k p1 p2 hjk (q1.trans q2.symm)
                clear HJ HK HX HO hNM
                go_wp2_with fail
                refine wp_region_later (by kernel_rfl) (by kernel_rfl) ?_
                repeat (go_big_quiet_step (fail))
                refine wpQuiet_nil ?_
                rintro w2 ⟨⟨_, hb2⟩, rfl⟩
                have hfin := hb.trans (hb2.mono hb.size)
                clear hxl hc hd hb hb2
                go_wp2_with fail
                go_ret
                exact ⟨false, rfl, HN.out, hfin⟩
              · have hbe : (y == x) = false := by simpa using hyx
                have HN2 := Lib.hid (not_mem_take_next hNM.out HJ.out hyx)
                clear HJ hNM
                go_wp2_with fail
                refine wp_region_later (by kernel_rfl) (by kernel_rfl) ?_
                repeat (go_big_quiet_step (fail))
                refine wpQuiet_nil ?_
                rintro w2 ⟨⟨_, hb2⟩, rfl⟩
                have hb3 := hb.trans (hb2.mono hb.size)
                clear hxl hc hd hb hb2
                go_wp2_with fail
                go_roundw
                case rel => exact ⟨j + 1, by omega, by go_num, HN2.out, hb3⟩
                case measure => simp [intOf]; omega
            · obtain rfl : j = k := by omega
              have hbj : decide ((j : Int) < (j : Int)) = false := by simp
              have HN : Hid (OrdTo m o (j + 1)) := HO.out.next HK.out x0 (by omega) hNM.out
              clear HO HK HX hNM
              go_wp2_with fail
              go_roundw
              case rel => exact ⟨j + 1, by omega, by go_num, HN.out, hb⟩
              case measure => simp [intOf]; omega
        · have hin2 : (decide (0 ≤ x) && decide (x ≤ (m : Int) - 1)) = false := by
            by_cases h1 : 0 ≤ x
            · have h2 : ¬ x ≤ (m : Int) - 1 := fun h2 => hin ⟨h1, h2⟩
              simp [h2]
            · simp [h1]
          rw [hin2] at HM
          clear hin2
          have HN : Hid ((false = true) ↔ isOrd m o) := by
            show _ ↔ _
            refine ⟨fun h => (by cases h), fun h => ?_⟩
            exfalso
            have := h.2.2 x (List.mem_of_getElem? HK.out)
            exact hin ⟨this.1, by omega⟩
          clear HO HK HX hin
          go_wp2_with fail
          refine (HM.out _).out.mono ?_
          rintro e w' ⟨rfl, rfl⟩
          clear HM
          go_wp2_with fail
          go_ret
          exact ⟨false, rfl, HN.out, hb⟩
      · obtain rfl : k = m := by omega
        have hbt : decide ((k : Int) < (k : Int)) = false := by simp
        have HN : Hid (isOrd k o) := hO.done hol
        clear hO
        go_wp2_with fail
        go_ret
        exact ⟨true, rfl, ⟨fun _ => HN.out, fun _ => rfl⟩, hb⟩
end Go.Proofs.Ytnfcigbiebbjdaa
