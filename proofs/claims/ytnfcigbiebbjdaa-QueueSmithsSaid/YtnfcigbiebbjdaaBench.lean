/-
  Two slices joined (Grow, Concat), and whether the times on two benches are valid.
  Conditions: the slices start at the heads of blocks and are not longer than 1000.
-/
import Derived.Test.YtnfcigbiebbjdaaTwo
import Derived.Test.YtnfcigbiebbjdaaApp
import Derived.Lib.AppendZerosOnto
namespace Go.Proofs.Ytnfcigbiebbjdaa
open Go.RowKit

set_option maxHeartbeats 2000000 in
theorem grow_any (n : Nat) (w : World) (hn : n ≤ 2000) :
    Calls Try.prog 93 #[.slice none 0 0, .int .i64 n] w fun e w' => ∃ v, e = .returned v ∧ w'.ownsRow w.heap.size 3 1 v 0 [] ∧ Below w.heap.size w w' := by
  by_cases h0 : n = 0
  · subst h0
    go_enter Try.func93, Try.ntmps93
    go_wp2_with fail
    go_ret
    exact ⟨_, rfl, World.ownsRow_nil _ _ _ _, Below.refl _ _⟩
  · obtain ⟨i0, hi, hz0, hz1, hz2⟩ := info_parts info3
    have hrz : ∀ ty, (Builtin.append_ #[23, 3] ty #[.slice none 0 0, .int .i64 (n : Int)]).run Try.prog w =
        .ok (.slice (some ⟨w.heap.size, 0, none⟩) n (grownCap w n 0 3)) (w.drew.alloc (.cells (#[] ++ Builtin.zeroCells (Value.int .i64 0).cells n ++ Builtin.zeroCells (Value.int .i64 0).cells (grownCap w n 0 3 - n)) 3)) := fun ty => by
      have hold : (Builtin.firstCells i0.size 0 (.slice none 0 0)).run Try.prog w.drew = .ok ([] : List Value).toArray w.drew := run_firstCells_none w.drew i0.size 0 0 0
      have h := Lib.run_append_grow_zeros w 23 3 ty 3 i0 (.int .i64 0) .i64 .i64 Try.underlying23 Try.underlying3 hi hz0 none 0 0 [] hold n (by omega) (by omega) (by omega) (by omega) (by rw [hz2]; omega) (growslice_fits (by omega) (by rw [hz2]; omega))
      simpa using h
    have hG := grownCap_ge w n 0 3
    obtain ⟨G, hGe⟩ : ∃ G, G = grownCap w n 0 3 := ⟨_, rfl⟩
    rw [← hGe] at hrz hG
    have hG63 : G ≤ maxLen := by
      have := grownCap_le_maxLen w n 0 3 (by unfold maxLen; omega)
      rwa [← hGe] at this
    have hcs : (#[] ++ Builtin.zeroCells (Value.int .i64 0).cells n ++ Builtin.zeroCells (Value.int .i64 0).cells (G - n) : Array Value).size = G * 1 := by
      simp [Builtin.zeroCells, Value.cells]
      omega
    generalize (#[] ++ Builtin.zeroCells (Value.int .i64 0).cells n ++ Builtin.zeroCells (Value.int .i64 0).cells (G - n) : Array Value) = cs at *
    have hb63 : (G : Int) ≤ 9223372036854775807 := by unfold maxLen at hG63; omega
    have HG := Lib.hid (And.intro hG63 hcs)
    clear hGe hi hz0 hz1 hz2 hG63 hcs
    have hn0 : (0 : Int) < (n : Int) := by omega
    go_enter Try.func93, Try.ntmps93
    go_wp2_with (at_builtin; refine Lib.wpList_append_run _ rfl _ _ _ _ rfl _ _ rfl rfl _ _ (hrz _) ?_)
    all_goals (go_ret; exact ⟨_, rfl, World.ownsRow_made (base := w.heap.size) (e := 3) (size := 1) w.drew cs G (by simp) HG.out.1 HG.out.2, ((Below.refl _ _).drew).alloc (by simp) _⟩)

/-- What Concat has put together. -/
def CatK (w0 : World) (f s : List Int) (k : Nat) (v : Value) (wr : World) : Prop :=
  wr.ownsRow w0.heap.size 3 1 v (if k = 0 then 0 else if k = 1 then f.length else f.length + s.length) ((if k = 0 then [] else if k = 1 then f else f ++ s).map (Value.int .i64)) ∧ Below w0.heap.size w0 wr

set_option maxHeartbeats 4000000 in
theorem concat_any (A B : Option Addr) (n c m d g0 : Nat) (f s : List Int) (w : World) (hG : Blk w g0 23 #[.slice A n c, .slice B m d]) (rA : RowH w A n f) (rB : RowH w B m s) (hn : n ≤ 1000) (hm : m ≤ 1000) :
    Calls Try.prog 81 #[.slice (some ⟨g0, 0, none⟩) 2 2] w fun e w' => ∃ v, e = .returned v ∧ CatK w f s 2 v w' := by
  have lA := Lib.hid rA.1
  have lB := Lib.hid rB.1
  go_enter Try.func81, Try.ntmps81
  go_wp2_with fail
  go_loopw [3, 11] (fun t i wr => ∃ (k : Nat), k ≤ 2 ∧ i = .int .i64 k ∧ t = .int .i64 (if k = 0 then 0 else if k = 1 then (n : Int) else (n : Int) + m) ∧ w = wr) (fun _ i _ => 2 - (intOf i).toNat)
  case atStart => exact ⟨0, by omega, rfl, rfl, rfl⟩
  case round =>
    obtain ⟨k, hk, rfl, rfl, rfl⟩ := hrel
    have cG := hG.cell
    have zG := hG.lt
    rcases (show k = 0 ∨ k = 1 ∨ k = 2 by omega) with rfl | rfl | rfl
    · simp only [if_true]
      go_wp2_with fail
      go_roundw
      case rel => exact ⟨1, by omega, rfl, by simp, trivial⟩
      case measure => simp [intOf]
    · simp only [if_true, if_neg (show ¬ (1 : Nat) = 0 by omega)]
      have hs : ¬ ((n : Int) + (m : Int) < 0) := by omega
      have hsd : decide ((n : Int) + (m : Int) < 0) = false := by simp; omega
      go_wp2_with fail
      go_roundw
      case rel => exact ⟨2, by omega, rfl, by simp, trivial⟩
      case measure => simp [intOf]
    · simp only [if_neg (show ¬ (2 : Nat) = 0 by omega), if_neg (show ¬ (2 : Nat) = 1 by omega)]
      obtain ⟨N, hN⟩ : ∃ N, N = n + m := ⟨_, rfl⟩
      have hsum : (n : Int) + (m : Int) = (N : Int) := by omega
      have hnm : N ≤ 2000 := by omega
      rw [hsum]
      clear hsum hN
      go_wp2_with fail
      refine (grow_any N _ hnm).mono ?_
      rintro e w1 ⟨v, rfl, hown, hb1⟩
      have hG1 := hG.later hb1
      have cG1 := hG1.cell
      have zG1 := hG1.lt
      clear cG zG
      go_wp2_with fail
      go_loopw [6, 27] (fun v i wr => ∃ (k : Nat), k ≤ 2 ∧ i = .int .i64 k ∧ CatK w f s k v wr) (fun _ i _ => 2 - (intOf i).toNat)
      case atStart => exact ⟨0, by omega, rfl, hown, hb1⟩
      case round =>
        clear hown hb1 hG1 cG1 zG1
        obtain ⟨k, hk, rfl, hK⟩ := hrel
        obtain ⟨v, hv⟩ : ∃ v, v = u6 := ⟨_, rfl⟩
        subst hv
        obtain ⟨hown, hb⟩ := hK
        have hG2 := hG.later hb
        have rA2 := rA.later hb
        have rB2 := rB.later hb
        have cG := hG2.cell
        have zG := hG2.lt
        have sz := hb.size
        rcases (show k = 0 ∨ k = 1 ∨ k = 2 by omega) with rfl | rfl | rfl
        · simp only [if_true] at hown
          go_wp2_with (at_builtin; refine app_ints _ rfl (.tmp 31) (.tmp 32) rfl w.heap.size _ _ _ rfl hown _ n c f rfl rA2.rowI (by have := lA.out; omega) sz ?_)
          intro v2 w2 hown2 hgr
          have hb2 := hb.grown hgr sz (fun k hk => (hown.lt k hk).1)
          go_wp2_with fail
          go_roundw
          case rel =>
            refine ⟨1, by omega, rfl, ?_, hb2⟩
            simpa [lA.out] using hown2
          case measure => simp [intOf]
        · simp only [if_true, if_neg (show ¬ (1 : Nat) = 0 by omega)] at hown
          go_wp2_with (at_builtin; refine app_ints _ rfl (.tmp 31) (.tmp 32) rfl w.heap.size _ _ _ rfl hown _ m d s rfl rB2.rowI (by have := lA.out; omega) sz ?_)
          intro v2 w2 hown2 hgr
          have hb2 := hb.grown hgr sz (fun k hk => (hown.lt k hk).1)
          go_wp2_with fail
          go_roundw
          case rel =>
            refine ⟨2, by omega, rfl, ?_, hb2⟩
            simpa [lB.out] using hown2
          case measure => simp [intOf]
        · go_wp2_with fail
          go_ret
          exact ⟨_, rfl, hown, hb⟩
end Go.Proofs.Ytnfcigbiebbjdaa
