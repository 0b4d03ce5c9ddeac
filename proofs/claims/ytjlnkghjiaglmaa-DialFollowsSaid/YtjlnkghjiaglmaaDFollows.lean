/-
  Proved: DialFollows: following Pushes from one face leads to the other; from a first of a month there is always a way.
  Conditions: none.
-/
import Derived.Test.YtjlnkghjiaglmaaOpens
import Derived.Test.YtjlnkghjiaglmaaLives
import Derived.Test.YtjlnkghjiaglmaaFaced
import Derived.Test.YtjlnkghjiaglmaaFmath
import Derived.Test.YtjlnkghjiaglmaaFresh
import Derived.Deep.RegionHeld3
import Derived.Test.YtjlnkghjiaglmaaSame
namespace Go.Proofs.Ytjlnkghjiaglmaa.dialFollows
open Go.ChangeShapes Go.WideShapes Go.ChangeAt Go.RowKit

attribute [local go_sem] Oper.growAt Oper.growUpon

/-- The walk of the first statement: two faces, made of any ones, in two blocks. -/
def Two (w : World) (f t : Fc) (b5 b6 : Nat) (W : World) : Prop :=
  w.heap.size ≤ b5 ∧ w.heap.size ≤ b6 ∧ Blk W b5 52 f.cells ∧ Blk W b6 52 t.cells ∧ Below w.heap.size w W

theorem two_of {w w2 : World} {o1 o2 : Obj} {b5 b6 : Nat} (hb : Below ((w.alloc o1).alloc o2).heap.size ((w.alloc o1).alloc o2) w2)
    (hl : ∀ x ∈ ([(b6, .cells Z5 52), (b5, .cells Z5 52)] : Laid), ((w.alloc o1).alloc o2).heap.size ≤ x.1 ∧ x.1 < w2.heap.size ∧ w2.heap[x.1]? = some x.2)
    (hp : ([(b6, .cells Z5 52), (b5, .cells Z5 52)] : Laid).Pairwise (fun x y => x.1 ≠ y.1)) :
    w.heap.size < b5 ∧ w.heap.size < b6 ∧ b5 ≠ b6 ∧ Blk w2 b5 52 Z5 ∧ Blk w2 b6 52 Z5 ∧ Below w.heap.size w w2 := by
  have h5 := hl (b5, .cells Z5 52) (by simp)
  have h6 := hl (b6, .cells Z5 52) (by simp)
  have hne : b6 ≠ b5 := (List.pairwise_cons.1 hp).1 (b5, .cells Z5 52) (by simp)
  simp at h5 h6
  exact ⟨by omega, by omega, fun e => hne e.symm, h5.2.2, h6.2.2, (below2 w o1 o2).trans (hb.mono (by first | omega | (simp; omega) | simp))⟩

/-- The two faces' stores. -/
theorem two_stored {w w2 : World} {f t : Fc} {b5 b6 : Nat} (l5 : w.heap.size < b5) (l6 : w.heap.size < b6) (hne : b5 ≠ b6) (h5 : Blk w2 b5 52 Z5) (h6 : Blk w2 b6 52 Z5) (hb : Below w.heap.size w w2) :
    Two w f t b5 b6 ((((((((((w2.setCell ⟨b5, 0, none⟩ (.int .i64 f.D)).setCell ⟨b5, 1, none⟩ (.int .i64 f.M)).setCell ⟨b5, 2, none⟩ (.int .i64 f.L)).setCell ⟨b5, 3, none⟩ (.int .i64 f.W)).setCell ⟨b5, 4, none⟩ (.int .i64 f.O)).setCell ⟨b6, 0, none⟩ (.int .i64 t.D)).setCell ⟨b6, 1, none⟩ (.int .i64 t.M)).setCell ⟨b6, 2, none⟩ (.int .i64 t.L)).setCell ⟨b6, 3, none⟩ (.int .i64 t.W)).setCell ⟨b6, 4, none⟩ (.int .i64 t.O)) := by
  have k5 := ((((h5.set_ 0 (.int .i64 f.D)).set_ 1 (.int .i64 f.M)).set_ 2 (.int .i64 f.L)).set_ 3 (.int .i64 f.W)).set_ 4 (.int .i64 f.O)
  have k6 := ((((h6.far (p := ⟨b5, 0, none⟩) (fun e => hne e.symm) (.int .i64 f.D)).far (p := ⟨b5, 1, none⟩) (fun e => hne e.symm) (.int .i64 f.M)).far (p := ⟨b5, 2, none⟩) (fun e => hne e.symm) (.int .i64 f.L)).far (p := ⟨b5, 3, none⟩) (fun e => hne e.symm) (.int .i64 f.W)).far (p := ⟨b5, 4, none⟩) (fun e => hne e.symm) (.int .i64 f.O)
  refine ⟨by omega, by omega, ?_, ?_, ?_⟩
  · exact ((((k5.far (p := ⟨b6, 0, none⟩) hne _).far (p := ⟨b6, 1, none⟩) hne _).far (p := ⟨b6, 2, none⟩) hne _).far (p := ⟨b6, 3, none⟩) hne _).far (p := ⟨b6, 4, none⟩) hne _
  · exact ((((k6.set_ 0 _).set_ 1 _).set_ 2 _).set_ 3 _).set_ 4 _
  · have l5' : w.heap.size ≤ b5 := by omega
    have l6' : w.heap.size ≤ b6 := by omega
    exact (((((((((hb.setCell l5' _).setCell l5' _).setCell l5' _).setCell l5' _).setCell l5' _).setCell l6' _).setCell l6' _).setCell l6' _).setCell l6' _).setCell l6' _

/-- What holds throughout the region of the loop's call. -/
def FS (wr : World) (g h j : Nat) (p : Int) (f : Fc) (w' : World) : Prop :=
  (∀ i, w'.cell? ⟨g, i, none⟩ = f.cells[i]?) ∧ w'.cell? ⟨h, j, none⟩ = some (.int .i64 p) ∧ g < wr.heap.size ∧ h < wr.heap.size ∧ Below wr.heap.size wr w'
theorem FS_of {wr : World} {g h j : Nat} {p : Int} {f : Fc} (hG : Blk wr g 52 f.cells) (hP : wr.cell? ⟨h, j, none⟩ = some (.int .i64 p)) (hz : h < wr.heap.size) : FS wr g h j p f wr :=
  ⟨hG.cell, hP, hG.lt, hz, Below.refl _ _⟩
theorem FS_grow {wr w1 w2 : World} {g h j : Nat} {p : Int} {f : Fc} (hS : FS wr g h j p f w1) (hb : Below w1.heap.size w1 w2) : FS wr g h j p f w2 :=
  ⟨fun i => (hb.cell (p := ⟨g, i, none⟩) (Nat.lt_of_lt_of_le hS.2.2.1 hS.2.2.2.2.size)).trans (hS.1 i), (hb.cell (p := ⟨h, j, none⟩) (Nat.lt_of_lt_of_le hS.2.2.2.1 hS.2.2.2.2.size)).trans hS.2.1, hS.2.2.1, hS.2.2.2.1, hS.2.2.2.2.trans (hb.mono hS.2.2.2.2.size)⟩
theorem FS_drew {wr w1 w2 : World} {g h j : Nat} {p : Int} {f : Fc} (hS : FS wr g h j p f w1.drew) (hb : Below w1.heap.size w1 w2) : FS wr g h j p f w2.drew :=
  FS_grow hS (show Below w1.drew.heap.size w1.drew w2.drew from ⟨hb.os, hb.tape, hb.output, hb.size, hb.block⟩)
theorem FS_set {wr w1 : World} {g h j b : Nat} {p : Int} {f : Fc} (hS : FS wr g h j p f w1) (hb : wr.heap.size ≤ b) {i : Nat} (u : Value) : FS wr g h j p f (w1.setCell ⟨b, i, none⟩ u) :=
  ⟨fun k => (World.cell?_of_block (w := w1) (Below.heap_setCell w1 ⟨b, i, none⟩ u g (by have := hS.2.2.1; show g ≠ b; omega))).trans (hS.1 k),
    (World.cell?_of_block (w := w1) (Below.heap_setCell w1 ⟨b, i, none⟩ u h (by have := hS.2.2.2.1; show h ≠ b; omega))).trans hS.2.1, hS.2.2.1, hS.2.2.2.1, hS.2.2.2.2.setCell hb u⟩
/-- What is known behind it. -/
def FQ (wr : World) (b : Nat) (w' : World) : Prop := Below wr.heap.size wr w' ∧ wr.heap.size ≤ b ∧ Blk w' b 52 Z5

set_option maxHeartbeats 2000000 in
theorem walk_none (x y f t : Fc) (w : World) (M1 : Hid (∀ w, Hid (Calls Try.prog 49 #[x.val] w fun e w' => e = .returned f.val ∧ Below w.heap.size w w')))
    (M2 : Hid (∀ w, Hid (Calls Try.prog 49 #[y.val] w fun e w' => e = .returned t.val ∧ Below w.heap.size w w')))
    (M3 : Hid (∀ w, Hid (Calls Try.prog 56 #[f.val, t.val] w fun e w' => e = .returned (.tuple #[.int .i64 0, .int .i64 0, .int .i64 0, .int .i64 0, .int .i64 6]) ∧ Below w.heap.size w w'))) (hD : 1 < f.D) :
    Calls Try.prog 18 #[x.val, y.val] w fun e w' => e = .returned (.bool true) ∧ Below w.heap.size w w' := by
  have hx := later_cell (w := (w.alloc (.cells x.cells 52)).alloc (.cells y.cells 52))
  go_enter Try.func18, Try.ntmps18
  go_wp2_with fail
  refine wp_region_fresh 6 [0, 1, 2, 3] [(4, .cells Z5 52, fun b => .pointer (some ⟨b, 0, none⟩)), (5, .cells Z5 52, fun b => .pointer (some ⟨b, 0, none⟩))] (by kernel_rfl) (by kernel_rfl) rfl ?_
  simp only [List.map_cons, List.map_nil, List.getElem?_toArray, List.getElem?_cons_zero, List.getElem?_cons_succ, Option.getD_some, List.drop_succ_cons, List.drop_zero]
  refine wpGrow_step (fun K hK => ?_)
  go_simp
  refine hK _ ?_; clear hK K
  refine wpGrow_step (fun K hK => ?_)
  go_simp
  apply Exists.intro; refine ⟨fun _ => (M1.out _).out, hK _ ?_⟩; clear hK K
  refine wpGrow_step (fun K hK => ?_)
  go_simp
  refine hK _ ?_; clear hK K
  refine wpGrow_step (fun K hK => ?_)
  go_simp
  apply Exists.intro; refine ⟨fun _ => (M2.out _).out, hK _ ?_⟩; clear hK K
  refine wpGrow_nil ?_
  refine ⟨_, rfl, rfl, fun x => by go_simp, fun b5 => ⟨_, rfl, rfl, fun x => by go_simp, fun b6 => ?_⟩⟩
  intro w2 hb2 hl2 hp2
  obtain ⟨l5, l6, hne, h5, h6, hbw⟩ := two_of hb2 hl2 hp2
  clear hb2 hl2 hp2 hx
  have c5 := h5.cell
  have f5 := h5.frozen
  have c6 := h6.cell
  have f6 := h6.frozen
  have hne2 : b6 ≠ b5 := fun e => hne e.symm
  simp only [Act.put, List.setIfInBounds_toArray]
  go_wp2_with fail
  have hT := two_stored (f := f) (t := t) l5 l6 hne h5 h6 hbw
  refine (M3.out _).out.mono ?_; rintro e w3 ⟨rfl, hb3⟩
  have h7 := hT.2.2.1.later hb3
  have hbw3 := hT.2.2.2.2.trans (hb3.mono hT.2.2.2.2.size)
  have s3 := hbw3.size
  clear hT h5 h6 hbw c5 c6 f5 f6 hb3
  have c7 := h7.cell
  go_wp2_with fail
  refine (lives_any _).mono ?_; rintro e w4 ⟨rfl, hb4⟩
  go_wp2_with fail
  go_ret
  exact ⟨rfl, hbw3.trans (hb4.mono s3)⟩

set_option maxHeartbeats 4000000 in
theorem walk_way (x y f t : Fc) (w : World) (M1 : Hid (∀ w, Hid (Calls Try.prog 49 #[x.val] w fun e w' => e = .returned f.val ∧ Below w.heap.size w w')))
    (M2 : Hid (∀ w, Hid (Calls Try.prog 49 #[y.val] w fun e w' => e = .returned t.val ∧ Below w.heap.size w w')))
    (M3 : Hid (∀ w, Hid (Calls Try.prog 56 #[f.val, t.val] w fun e w' => e = .returned (.tuple #[.int .i64 (t.D - (f.reached t).D), .int .i64 (f.far t), .int .i64 (f.farW t), .int .i64 (f.farO t), .int .i64 0]) ∧ Below w.heap.size w w')))
    (hf : f.ok) (ht : t.ok) (hD : (f.reached t).D ≤ t.D) :
    Calls Try.prog 18 #[x.val, y.val] w fun e w' => e = .returned (.bool true) ∧ Below w.heap.size w w' := by
  have hx := later_cell (w := (w.alloc (.cells x.cells 52)).alloc (.cells y.cells 52))
  have S4 := Lib.hid (Fc.stage_4 hf ht hD)
  have hst := Lib.hid (Fc.stage_ok t hf)
  have hob := Lib.hid (fun i hi => Fc.often_bd hf ht hD i hi)
  have bD := hob.out 1 (by omega)
  have bF := hob.out 0 (by omega)
  have bW := hob.out 2 (by omega)
  have bO := hob.out 3 (by omega)
  have bD2 : t.D - (f.reached t).D ≤ 30 := by have := (Fc.reached_ok hf t).2.2.2.2.1; have := (Fc.lst_bd t).2; have := ht.2.2.2.2.2.1; omega
  have bF2 := (Fc.far_bd f t).2
  have bW2 := (farW_bd f t).2
  have bO2 := (farO_bd f t).2
  have bD1 : 0 ≤ t.D - (f.reached t).D := bD.1
  have bF1 : 0 ≤ f.far t := bF.1
  have bW1 : 0 ≤ f.farW t := bW.1
  have bO1 : 0 ≤ f.farO t := bO.1
  clear hf ht hD bD bF bW bO
  have HT := Lib.hid (show Fc.often f t = [f.far t, t.D - (f.reached t).D, f.farW t, f.farO t] from rfl)
  generalize t.D - (f.reached t).D = nD at *
  generalize f.far t = nF at *
  generalize f.farW t = nW at *
  generalize f.farO t = nO at *
  go_enter Try.func18, Try.ntmps18
  go_wp2_with fail
  refine wp_region_fresh 6 [0, 1, 2, 3] [(4, .cells Z5 52, fun b => .pointer (some ⟨b, 0, none⟩)), (5, .cells Z5 52, fun b => .pointer (some ⟨b, 0, none⟩))] (by kernel_rfl) (by kernel_rfl) rfl ?_
  simp only [List.map_cons, List.map_nil, List.getElem?_toArray, List.getElem?_cons_zero, List.getElem?_cons_succ, Option.getD_some, List.drop_succ_cons, List.drop_zero]
  refine wpGrow_step (fun K hK => ?_)
  go_simp
  refine hK _ ?_; clear hK K
  refine wpGrow_step (fun K hK => ?_)
  go_simp
  apply Exists.intro; refine ⟨fun _ => (M1.out _).out, hK _ ?_⟩; clear hK K
  refine wpGrow_step (fun K hK => ?_)
  go_simp
  refine hK _ ?_; clear hK K
  refine wpGrow_step (fun K hK => ?_)
  go_simp
  apply Exists.intro; refine ⟨fun _ => (M2.out _).out, hK _ ?_⟩; clear hK K
  refine wpGrow_nil ?_
  refine ⟨_, rfl, rfl, fun x => by go_simp, fun b5 => ⟨_, rfl, rfl, fun x => by go_simp, fun b6 => ?_⟩⟩
  intro w2 hb2 hl2 hp2
  obtain ⟨l5, l6, hne, h5, h6, hbw⟩ := two_of hb2 hl2 hp2
  clear hb2 hl2 hp2 hx
  have c5 := h5.cell
  have f5 := h5.frozen
  have c6 := h6.cell
  have f6 := h6.frozen
  have hne2 : b6 ≠ b5 := fun e => hne e.symm
  simp only [Act.put, List.setIfInBounds_toArray]
  go_wp2_with fail
  have hT := two_stored (f := f) (t := t) l5 l6 hne h5 h6 hbw
  refine (M3.out _).out.mono ?_; rintro e w3 ⟨rfl, hb3⟩
  have h7 := hT.2.2.1.later hb3
  have h8 := hT.2.2.2.1.later hb3
  have hbw3 := hT.2.2.2.2.trans (hb3.mono hT.2.2.2.2.size)
  have s3 := hbw3.size
  clear hT h5 h6 hbw c5 c6 f5 f6 hb3
  have z7 := h7.lt
  have z8 := h8.lt
  go_wp2_with fail
  refine (lives_any _).mono ?_; rintro e w4 ⟨rfl, hb4⟩
  have h7b := h7.later hb4
  have h8b := h8.later hb4
  have hbw4 := hbw3.trans (hb4.mono s3)
  have s4 := hbw4.size
  have z7b := h7b.lt
  have z8b := h8b.lt
  clear h7 h8 hbw3 s3 z7 z8 hb4
  have c7 := h7b.cell
  go_wp2_with fail
  have hG := ((Blk.new w4 52 f.cells).alloc (.cells #[.int .i64 nF, .int .i64 nD, .int .i64 nW, .int .i64 nO] 3)).alloc (.cells #[.int .i64 2, .int .i64 1, .int .i64 3, .int .i64 4] 3)
  have hN := (Blk.new1 w4 (.cells f.cells 52) 3 #[.int .i64 nF, .int .i64 nD, .int .i64 nW, .int .i64 nO]).alloc (.cells #[.int .i64 2, .int .i64 1, .int .i64 3, .int .i64 4] 3)
  have hP := Blk.new2 w4 (.cells f.cells 52) (.cells #[.int .i64 nF, .int .i64 nD, .int .i64 nW, .int .i64 nO] 3) 3 #[.int .i64 2, .int .i64 1, .int .i64 3, .int .i64 4]
  have hT := ((h8b.alloc (.cells f.cells 52)).alloc (.cells #[.int .i64 nF, .int .i64 nD, .int .i64 nW, .int .i64 nO] 3)).alloc (.cells #[.int .i64 2, .int .i64 1, .int .i64 3, .int .i64 4] 3)
  have hbw5 := ((hbw4.alloc s4 (.cells f.cells 52)).alloc (by first | omega | (simp; omega) | simp) (.cells #[.int .i64 nF, .int .i64 nD, .int .i64 nW, .int .i64 nO] 3)).alloc (by first | omega | (simp; omega) | simp) (.cells #[.int .i64 2, .int .i64 1, .int .i64 3, .int .i64 4] 3)
  clear c7
  go_loopw [15] (fun i wr => ∃ j : Nat, j ≤ 4 ∧ i = .int .i64 j ∧ Blk wr w4.heap.size 52 (Fc.stage f t j).cells ∧ Blk wr (w4.heap.size + 1) 3 #[.int .i64 nF, .int .i64 nD, .int .i64 nW, .int .i64 nO] ∧ Blk wr (w4.heap.size + 1 + 1) 3 #[.int .i64 2, .int .i64 1, .int .i64 3, .int .i64 4] ∧ Blk wr b6 52 t.cells ∧ Below w.heap.size w wr)
    (fun i _ => 4 - (intOf i).toNat)
  case atStart => exact ⟨0, by omega, rfl, hG, hN, hP, hT, hbw5⟩
  case round =>
    clear hG hN hP hT hbw5
    obtain ⟨j, hj, rfl, hG, hN, hP, hT, hbr⟩ := hrel
    by_cases hlt : j < 4
    · have hb4 : decide ((j : Int) < 4) = true := by simp; omega
      have hlt4 : (j : Int) < 4 := by omega
      have hon := hob.out j hlt
      have hwb := Fc.which_bd j hlt
      have eN : Hid ((#[.int .i64 nF, .int .i64 nD, .int .i64 nW, .int .i64 nO] : Array Value)[j]? = some (.int .i64 ((Fc.often f t).getD j 0))) := by
        show _ = _
        rw [HT.out]
        rcases (show j = 0 ∨ j = 1 ∨ j = 2 ∨ j = 3 by omega) with rfl | rfl | rfl | rfl <;> rfl
      have eP : Hid ((#[.int .i64 2, .int .i64 1, .int .i64 3, .int .i64 4] : Array Value)[j]? = some (.int .i64 (Fc.which.getD j 0))) := by
        show _ = _
        rcases (show j = 0 ∨ j = 1 ∨ j = 2 ∨ j = 3 by omega) with rfl | rfl | rfl | rfl <;> rfl
      have HS : Hid (Fc.stage f t (j + 1) = Fc.corrs (Fc.which.getD j 0) ((Fc.often f t).getD j 0).toNat (Fc.stage f t j)) := rfl
      have hsj := hst.out j
      generalize (Fc.often f t).getD j 0 = N at *
      generalize Fc.which.getD j 0 = p at *
      generalize Fc.stage f t j = s at *
      obtain ⟨n1, n2⟩ := hon
      obtain ⟨p1, p2⟩ := hwb
      have hall := Lib.hid (Fc.corrs_ok p hsj)
      clear hsj
      go_wp2_with fail
      obtain ⟨wo, hwo⟩ : ∃ wo : World, wo = wr := ⟨_, rfl⟩
      go_loopw [16] (fun i wr => ∃ k : Nat, (k : Int) ≤ N ∧ i = .int .i64 k ∧ Blk wr w4.heap.size 52 (Fc.corrs p k s).cells ∧ Blk wr (w4.heap.size + 1) 3 #[.int .i64 nF, .int .i64 nD, .int .i64 nW, .int .i64 nO] ∧ Blk wr (w4.heap.size + 1 + 1) 3 #[.int .i64 2, .int .i64 1, .int .i64 3, .int .i64 4] ∧ Blk wr b6 52 t.cells ∧ Below w.heap.size w wr)
        (fun i _ => (N - intOf i).toNat)
      case atStart => exact ⟨0, n1, rfl, hG, hN, hP, hT, hbr⟩
      case round =>
        clear hG hN hP hT hbr
        obtain ⟨k, hk, rfl, hG, hN, hP, hT, hbr⟩ := hrel
        have cN : wr.cell? ⟨w4.heap.size + 1, j, none⟩ = some (.int .i64 N) := (hN.cell j).trans eN.out
        have zG := hG.lt
        have zN := hN.lt
        have zP := hP.lt
        have zT := hT.lt
        by_cases hkl : (k : Int) < N
        · have cP : wr.cell? ⟨w4.heap.size + 1 + 1, j, none⟩ = some (.int .i64 p) := (hP.cell j).trans eP.out
          have cG := hG.cell
          have M5 := Lib.hid fun w => Lib.hid (Correct_yes (Fc.corrs p k s) p w (hall.out k) p1 p2)
          go_wp2_with fail
          refine wp_region_held_drew (S := FS wr (w4.heap.size) (w4.heap.size + 1 + 1) j p (Fc.corrs p k s)) (by kernel_rfl) (FS_grow (FS_of hG cP zP) ((Below.refl _ _).drew)) (fun hHeld => ?_)
          have hHeld' := hHeld
          unfold FS at hHeld'
          refine wpAnyH_take (i := 0) (v := ?_) rfl (by kernel_rfl) (by kernel_rfl) (by kernel_rfl) (fun _ _ _ h => h) (Or.inl ⟨by rfl, ?hy⟩) (by assumption) ?_
          case hy => (intro w hSw; (try unfold FS at hSw); go_simp; try with_reducible rfl)
          refine wpAnyH_take (i := 1) (v := ?_) rfl (by kernel_rfl) (by kernel_rfl) (by kernel_rfl) (fun _ _ _ h => h) (Or.inl ⟨by rfl, ?hy⟩) (by assumption) ?_
          case hy => (intro w hSw; (try unfold FS at hSw); go_simp; try with_reducible rfl)
          refine wpAnyH_take (i := 2) (v := ?_) rfl (by kernel_rfl) (by kernel_rfl) (by kernel_rfl) (fun _ _ _ h => h) (Or.inl ⟨by rfl, ?hy⟩) (by assumption) ?_
          case hy => (intro w hSw; (try unfold FS at hSw); go_simp; try with_reducible rfl)
          refine wpAnyH_take (i := 3) (v := ?_) rfl (by kernel_rfl) (by kernel_rfl) (by kernel_rfl) (fun _ _ _ h => h) (Or.inl ⟨by rfl, ?hy⟩) (by assumption) ?_
          case hy => (intro w hSw; (try unfold FS at hSw); go_simp; try with_reducible rfl)
          refine wpAnyH_take (i := 4) (v := ?_) rfl (by kernel_rfl) (by kernel_rfl) (by kernel_rfl) (fun _ _ _ h => h) (Or.inl ⟨by rfl, ?hy⟩) (by assumption) ?_
          case hy => (intro w hSw; (try unfold FS at hSw); go_simp; try with_reducible rfl)
          simp only [Act.put, List.setIfInBounds_toArray]
          refine wpAnyH_ready (rs := [5, 9]) (by kernel_rfl) (by simp) ?_
          refine AllReadyH.cons rfl (fun K hK => ?_) (AllReadyH.cons rfl (fun K hK => ?_) AllReadyH.nil)
          · skip
            go_simp
            refine (M5.out _).out.mono ?_; rintro e w5 ⟨rfl, hb5⟩
            refine hK.out _ _ (FS_grow hHeld hb5) (fun hH2 => ?_)
            clear hK K hHeld'
            refine wpAnyH_take (i := 6) (v := ?_) rfl (by kernel_rfl) (by kernel_rfl) (by kernel_rfl) (fun _ _ _ h => h) (Or.inl ⟨by rfl, ?hy⟩) (by assumption) ?_
            case hy => (intro w hSw; (try unfold FS at hSw); go_simp; try with_reducible rfl)
            refine wpAnyH_take (i := 7) (v := ?_) rfl (by kernel_rfl) (by kernel_rfl) (by kernel_rfl) (fun _ _ _ h => h) (Or.inl ⟨by rfl, ?hy⟩) (by assumption) ?_
            case hy => (intro w hSw; (try unfold FS at hSw); go_simp; try with_reducible rfl)
            refine wpAnyH_take (i := 8) (v := ?_) rfl (by kernel_rfl) (by kernel_rfl) (by kernel_rfl) (fun _ _ _ h => h) (Or.inl ⟨by rfl, ?hy⟩) (by assumption) ?_
            case hy => (intro w hSw; (try unfold FS at hSw); go_simp; try with_reducible rfl)
            simp only [Act.put, List.setIfInBounds_toArray]
            refine wpAnyH_ready (rs := [9]) (by kernel_rfl) (by simp) (AllReadyH.cons rfl (fun K hK => ?_) AllReadyH.nil)
            go_simp
            refine hK.out _ _ (FS_grow hH2 ((Below.refl _ _).alloc (Nat.le_refl _) _)) (fun hH3 => ?_)
            clear hK K
            refine forget3 (F := FQ wr w5.heap.size) ⟨hH3.2.2.2.2, hH2.2.2.2.2.size, Blk.new w5 52 Z5⟩ ?_
            have e17 : ∃ b17, b17 = w5.heap.size := ⟨_, rfl⟩
            obtain ⟨b17, hb17⟩ := e17
            rw [← hb17]
            clear hb17 hH2 hH3 hHeld hb5
            rintro w6 ⟨hb5, g17, hQ⟩
            have hG5 := hG.later hb5
            have hN5 := hN.later hb5
            have hP5 := hP.later hb5
            have hT5 := hT.later hb5
            have hbr5 := hbr.trans (hb5.mono hbr.size)
            have sr := hbr.size
            have hFS := FS_grow (FS_of hG cP zP) hb5
            clear cN cP cG
            have cQ := hQ.cell
            have fQ := hQ.frozen
            have zG5 := hG5.lt
            have cG := (((((hG5.far (p := ⟨b17, 0, none⟩) (by first | omega | (simp; omega) | simp) (.int .i64 (Fc.corr p (Fc.corrs p k s)).D)).far (p := ⟨b17, 1, none⟩) (by first | omega | (simp; omega) | simp) (.int .i64 (Fc.corr p (Fc.corrs p k s)).M)).far (p := ⟨b17, 2, none⟩) (by first | omega | (simp; omega) | simp) (.int .i64 (Fc.corr p (Fc.corrs p k s)).L)).far (p := ⟨b17, 3, none⟩) (by first | omega | (simp; omega) | simp) (.int .i64 (Fc.corr p (Fc.corrs p k s)).W)).far (p := ⟨b17, 4, none⟩) (by first | omega | (simp; omega) | simp) (.int .i64 (Fc.corr p (Fc.corrs p k s)).O)).cell
            have fG := (((((hG5.far (p := ⟨b17, 0, none⟩) (by first | omega | (simp; omega) | simp) (.int .i64 (Fc.corr p (Fc.corrs p k s)).D)).far (p := ⟨b17, 1, none⟩) (by first | omega | (simp; omega) | simp) (.int .i64 (Fc.corr p (Fc.corrs p k s)).M)).far (p := ⟨b17, 2, none⟩) (by first | omega | (simp; omega) | simp) (.int .i64 (Fc.corr p (Fc.corrs p k s)).L)).far (p := ⟨b17, 3, none⟩) (by first | omega | (simp; omega) | simp) (.int .i64 (Fc.corr p (Fc.corrs p k s)).W)).far (p := ⟨b17, 4, none⟩) (by first | omega | (simp; omega) | simp) (.int .i64 (Fc.corr p (Fc.corrs p k s)).O)).frozen
            have zQ := hQ.lt
            refine wpAnyH_ready (rs := [10]) (by kernel_rfl) (by simp) (AllReadyH.cons rfl (fun K hK => ?_) AllReadyH.nil)
            go_simp
            refine hK.out _ _ ((FS_set (FS_set (FS_set (FS_set (FS_set hFS g17 _) g17 _) g17 _) g17 _) g17 _)) (fun _ => ?_)
            clear hK K
            refine wpAnyH_ready (rs := [11]) (by kernel_rfl) (by simp) (AllReadyH.cons rfl (fun K hK => ?_) AllReadyH.nil)
            go_simp
            refine hK.out _ _ ((FS_set (FS_set (FS_set (FS_set (FS_set hFS g17 _) g17 _) g17 _) g17 _) g17 _)) (fun _ => ?_)
            clear hK K
            refine wpAnyH_done (by kernel_rfl) ?_ _
            go_wp2_with fail
            go_roundw
            case rel =>
              refine ⟨k + 1, by omega, by go_num, ?_, ?_, ?_, ?_, ?_⟩
              · exact (((((((((hG5.far (p := ⟨b17, 0, none⟩) (by first | omega | (simp; omega) | simp) _).far (p := ⟨b17, 1, none⟩) (by first | omega | (simp; omega) | simp) _).far (p := ⟨b17, 2, none⟩) (by first | omega | (simp; omega) | simp) _).far (p := ⟨b17, 3, none⟩) (by first | omega | (simp; omega) | simp) _).far (p := ⟨b17, 4, none⟩) (by first | omega | (simp; omega) | simp) _).set_ 0 _).set_ 1 _).set_ 2 _).set_ 3 _).set_ 4 _
              · exact ((((((((((hN5.far (p := ⟨b17, 0, none⟩) (by first | omega | (simp; omega) | simp) _).far (p := ⟨b17, 1, none⟩) (by first | omega | (simp; omega) | simp) _).far (p := ⟨b17, 2, none⟩) (by first | omega | (simp; omega) | simp) _).far (p := ⟨b17, 3, none⟩) (by first | omega | (simp; omega) | simp) _).far (p := ⟨b17, 4, none⟩) (by first | omega | (simp; omega) | simp) _).far (p := ⟨w4.heap.size, 0, none⟩) (by first | omega | (simp; omega) | simp) _).far (p := ⟨w4.heap.size, 1, none⟩) (by first | omega | (simp; omega) | simp) _).far (p := ⟨w4.heap.size, 2, none⟩) (by first | omega | (simp; omega) | simp) _).far (p := ⟨w4.heap.size, 3, none⟩) (by first | omega | (simp; omega) | simp) _).far (p := ⟨w4.heap.size, 4, none⟩) (by first | omega | (simp; omega) | simp) _)
              · exact ((((((((((hP5.far (p := ⟨b17, 0, none⟩) (by first | omega | (simp; omega) | simp) _).far (p := ⟨b17, 1, none⟩) (by first | omega | (simp; omega) | simp) _).far (p := ⟨b17, 2, none⟩) (by first | omega | (simp; omega) | simp) _).far (p := ⟨b17, 3, none⟩) (by first | omega | (simp; omega) | simp) _).far (p := ⟨b17, 4, none⟩) (by first | omega | (simp; omega) | simp) _).far (p := ⟨w4.heap.size, 0, none⟩) (by first | omega | (simp; omega) | simp) _).far (p := ⟨w4.heap.size, 1, none⟩) (by first | omega | (simp; omega) | simp) _).far (p := ⟨w4.heap.size, 2, none⟩) (by first | omega | (simp; omega) | simp) _).far (p := ⟨w4.heap.size, 3, none⟩) (by first | omega | (simp; omega) | simp) _).far (p := ⟨w4.heap.size, 4, none⟩) (by first | omega | (simp; omega) | simp) _)
              · exact ((((((((((hT5.far (p := ⟨b17, 0, none⟩) (by first | omega | (simp; omega) | simp) _).far (p := ⟨b17, 1, none⟩) (by first | omega | (simp; omega) | simp) _).far (p := ⟨b17, 2, none⟩) (by first | omega | (simp; omega) | simp) _).far (p := ⟨b17, 3, none⟩) (by first | omega | (simp; omega) | simp) _).far (p := ⟨b17, 4, none⟩) (by first | omega | (simp; omega) | simp) _).far (p := ⟨w4.heap.size, 0, none⟩) (by first | omega | (simp; omega) | simp) _).far (p := ⟨w4.heap.size, 1, none⟩) (by first | omega | (simp; omega) | simp) _).far (p := ⟨w4.heap.size, 2, none⟩) (by first | omega | (simp; omega) | simp) _).far (p := ⟨w4.heap.size, 3, none⟩) (by first | omega | (simp; omega) | simp) _).far (p := ⟨w4.heap.size, 4, none⟩) (by first | omega | (simp; omega) | simp) _)
              · have q1 : w.heap.size ≤ b17 := by omega
                have q2 : w.heap.size ≤ w4.heap.size := by omega
                exact (((((((((hbr5.setCell q1 _).setCell q1 _).setCell q1 _).setCell q1 _).setCell q1 _).setCell q2 _).setCell q2 _).setCell q2 _).setCell q2 _).setCell q2 _
            case measure => simp [intOf]; omega
          · skip
            go_simp
            refine hK.out _ _ (FS_drew hHeld ((Below.refl _ _).alloc (Nat.le_refl _) _)) (fun hH2 => ?_)
            clear hK K hHeld'
            refine wpAnyH_ready (rs := [5]) (by kernel_rfl) (by simp) (AllReadyH.cons rfl (fun K hK => ?_) AllReadyH.nil)
            go_simp
            refine (M5.out _).out.mono ?_; rintro e w5 ⟨rfl, hb5⟩
            have hQ0 : Blk w5 wr.heap.size 52 Z5 := ((Blk.new wr 52 Z5).drew).later hb5
            refine hK.out _ _ (FS_grow hH2 hb5) (fun hH3 => ?_)
            clear hK K
            refine wpAnyH_take (i := 6) (v := ?_) rfl (by kernel_rfl) (by kernel_rfl) (by kernel_rfl) (fun _ _ _ h => h) (Or.inl ⟨by rfl, ?hy⟩) (by assumption) ?_
            case hy => (intro w hSw; (try unfold FS at hSw); go_simp; try with_reducible rfl)
            refine wpAnyH_take (i := 7) (v := ?_) rfl (by kernel_rfl) (by kernel_rfl) (by kernel_rfl) (fun _ _ _ h => h) (Or.inl ⟨by rfl, ?hy⟩) (by assumption) ?_
            case hy => (intro w hSw; (try unfold FS at hSw); go_simp; try with_reducible rfl)
            refine wpAnyH_take (i := 8) (v := ?_) rfl (by kernel_rfl) (by kernel_rfl) (by kernel_rfl) (fun _ _ _ h => h) (Or.inl ⟨by rfl, ?hy⟩) (by assumption) ?_
            case hy => (intro w hSw; (try unfold FS at hSw); go_simp; try with_reducible rfl)
            simp only [Act.put, List.setIfInBounds_toArray]
            refine forget3 (F := FQ wr wr.heap.size) ⟨hH3.2.2.2.2, Nat.le_refl _, hQ0⟩ ?_
            have e17 : ∃ b17, b17 = wr.heap.size := ⟨_, rfl⟩
            obtain ⟨b17, hb17⟩ := e17
            rw [← hb17]
            clear hb17 hH2 hH3 hHeld hb5 hQ0
            rintro w6 ⟨hb5, g17, hQ⟩
            have hG5 := hG.later hb5
            have hN5 := hN.later hb5
            have hP5 := hP.later hb5
            have hT5 := hT.later hb5
            have hbr5 := hbr.trans (hb5.mono hbr.size)
            have sr := hbr.size
            have hFS := FS_grow (FS_of hG cP zP) hb5
            clear cN cP cG
            have cQ := hQ.cell
            have fQ := hQ.frozen
            have zG5 := hG5.lt
            have cG := (((((hG5.far (p := ⟨b17, 0, none⟩) (by first | omega | (simp; omega) | simp) (.int .i64 (Fc.corr p (Fc.corrs p k s)).D)).far (p := ⟨b17, 1, none⟩) (by first | omega | (simp; omega) | simp) (.int .i64 (Fc.corr p (Fc.corrs p k s)).M)).far (p := ⟨b17, 2, none⟩) (by first | omega | (simp; omega) | simp) (.int .i64 (Fc.corr p (Fc.corrs p k s)).L)).far (p := ⟨b17, 3, none⟩) (by first | omega | (simp; omega) | simp) (.int .i64 (Fc.corr p (Fc.corrs p k s)).W)).far (p := ⟨b17, 4, none⟩) (by first | omega | (simp; omega) | simp) (.int .i64 (Fc.corr p (Fc.corrs p k s)).O)).cell
            have fG := (((((hG5.far (p := ⟨b17, 0, none⟩) (by first | omega | (simp; omega) | simp) (.int .i64 (Fc.corr p (Fc.corrs p k s)).D)).far (p := ⟨b17, 1, none⟩) (by first | omega | (simp; omega) | simp) (.int .i64 (Fc.corr p (Fc.corrs p k s)).M)).far (p := ⟨b17, 2, none⟩) (by first | omega | (simp; omega) | simp) (.int .i64 (Fc.corr p (Fc.corrs p k s)).L)).far (p := ⟨b17, 3, none⟩) (by first | omega | (simp; omega) | simp) (.int .i64 (Fc.corr p (Fc.corrs p k s)).W)).far (p := ⟨b17, 4, none⟩) (by first | omega | (simp; omega) | simp) (.int .i64 (Fc.corr p (Fc.corrs p k s)).O)).frozen
            have zQ := hQ.lt
            refine wpAnyH_ready (rs := [10]) (by kernel_rfl) (by simp) (AllReadyH.cons rfl (fun K hK => ?_) AllReadyH.nil)
            go_simp
            refine hK.out _ _ ((FS_set (FS_set (FS_set (FS_set (FS_set hFS g17 _) g17 _) g17 _) g17 _) g17 _)) (fun _ => ?_)
            clear hK K
            refine wpAnyH_ready (rs := [11]) (by kernel_rfl) (by simp) (AllReadyH.cons rfl (fun K hK => ?_) AllReadyH.nil)
            go_simp
            refine hK.out _ _ ((FS_set (FS_set (FS_set (FS_set (FS_set hFS g17 _) g17 _) g17 _) g17 _) g17 _)) (fun _ => ?_)
            clear hK K
            refine wpAnyH_done (by kernel_rfl) ?_ _
            go_wp2_with fail
            go_roundw
            case rel =>
              refine ⟨k + 1, by omega, by go_num, ?_, ?_, ?_, ?_, ?_⟩
              · exact (((((((((hG5.far (p := ⟨b17, 0, none⟩) (by first | omega | (simp; omega) | simp) _).far (p := ⟨b17, 1, none⟩) (by first | omega | (simp; omega) | simp) _).far (p := ⟨b17, 2, none⟩) (by first | omega | (simp; omega) | simp) _).far (p := ⟨b17, 3, none⟩) (by first | omega | (simp; omega) | simp) _).far (p := ⟨b17, 4, none⟩) (by first | omega | (simp; omega) | simp) _).set_ 0 _).set_ 1 _).set_ 2 _).set_ 3 _).set_ 4 _
              · exact ((((((((((hN5.far (p := ⟨b17, 0, none⟩) (by first | omega | (simp; omega) | simp) _).far (p := ⟨b17, 1, none⟩) (by first | omega | (simp; omega) | simp) _).far (p := ⟨b17, 2, none⟩) (by first | omega | (simp; omega) | simp) _).far (p := ⟨b17, 3, none⟩) (by first | omega | (simp; omega) | simp) _).far (p := ⟨b17, 4, none⟩) (by first | omega | (simp; omega) | simp) _).far (p := ⟨w4.heap.size, 0, none⟩) (by first | omega | (simp; omega) | simp) _).far (p := ⟨w4.heap.size, 1, none⟩) (by first | omega | (simp; omega) | simp) _).far (p := ⟨w4.heap.size, 2, none⟩) (by first | omega | (simp; omega) | simp) _).far (p := ⟨w4.heap.size, 3, none⟩) (by first | omega | (simp; omega) | simp) _).far (p := ⟨w4.heap.size, 4, none⟩) (by first | omega | (simp; omega) | simp) _)
              · exact ((((((((((hP5.far (p := ⟨b17, 0, none⟩) (by first | omega | (simp; omega) | simp) _).far (p := ⟨b17, 1, none⟩) (by first | omega | (simp; omega) | simp) _).far (p := ⟨b17, 2, none⟩) (by first | omega | (simp; omega) | simp) _).far (p := ⟨b17, 3, none⟩) (by first | omega | (simp; omega) | simp) _).far (p := ⟨b17, 4, none⟩) (by first | omega | (simp; omega) | simp) _).far (p := ⟨w4.heap.size, 0, none⟩) (by first | omega | (simp; omega) | simp) _).far (p := ⟨w4.heap.size, 1, none⟩) (by first | omega | (simp; omega) | simp) _).far (p := ⟨w4.heap.size, 2, none⟩) (by first | omega | (simp; omega) | simp) _).far (p := ⟨w4.heap.size, 3, none⟩) (by first | omega | (simp; omega) | simp) _).far (p := ⟨w4.heap.size, 4, none⟩) (by first | omega | (simp; omega) | simp) _)
              · exact ((((((((((hT5.far (p := ⟨b17, 0, none⟩) (by first | omega | (simp; omega) | simp) _).far (p := ⟨b17, 1, none⟩) (by first | omega | (simp; omega) | simp) _).far (p := ⟨b17, 2, none⟩) (by first | omega | (simp; omega) | simp) _).far (p := ⟨b17, 3, none⟩) (by first | omega | (simp; omega) | simp) _).far (p := ⟨b17, 4, none⟩) (by first | omega | (simp; omega) | simp) _).far (p := ⟨w4.heap.size, 0, none⟩) (by first | omega | (simp; omega) | simp) _).far (p := ⟨w4.heap.size, 1, none⟩) (by first | omega | (simp; omega) | simp) _).far (p := ⟨w4.heap.size, 2, none⟩) (by first | omega | (simp; omega) | simp) _).far (p := ⟨w4.heap.size, 3, none⟩) (by first | omega | (simp; omega) | simp) _).far (p := ⟨w4.heap.size, 4, none⟩) (by first | omega | (simp; omega) | simp) _)
              · have q1 : w.heap.size ≤ b17 := by omega
                have q2 : w.heap.size ≤ w4.heap.size := by omega
                exact (((((((((hbr5.setCell q1 _).setCell q1 _).setCell q1 _).setCell q1 _).setCell q1 _).setCell q2 _).setCell q2 _).setCell q2 _).setCell q2 _).setCell q2 _
            case measure => simp [intOf]; omega
        · have hkN : N.toNat = k := by omega
          have HS2 := Lib.hid (show Fc.stage f t (j + 1) = Fc.corrs p k s by rw [HS.out, hkN])
          clear hkN
          go_wp2_with fail
          go_roundw
          case rel =>
            refine ⟨j + 1, by omega, by go_num, ?_, hN, hP, hT, hbr⟩
            rw [HS2.out]
            exact hG
          case measure => simp [intOf]; omega
    · obtain rfl : j = 4 := by omega
      rw [S4.out] at hG
      have cG := hG.cell
      have cT := hT.cell
      have zG := hG.lt
      have zT := hT.lt
      go_wp2_with fail
      go_ret
      exact ⟨rfl, hbr⟩

theorem walk (D M L W O D' M' L' W' O' : Int) (w : World) :
    Calls Try.prog 18 #[.agg #[.int .i64 D, .int .i64 M, .int .i64 L, .int .i64 W, .int .i64 O], .agg #[.int .i64 D', .int .i64 M', .int .i64 L', .int .i64 W', .int .i64 O']] w fun e w' => e = .returned (.bool true) ∧ Below w.heap.size w w' := by
  have M1 := Lib.hid fun w => Lib.hid (faced_any ⟨D, M, L, W, O⟩ w)
  have M2 := Lib.hid fun w => Lib.hid (faced_any ⟨D', M', L', W', O'⟩ w)
  have hf := Fc.made_ok ⟨D, M, L, W, O⟩
  have ht := Fc.made_ok ⟨D', M', L', W', O'⟩
  generalize Fc.made ⟨D, M, L, W, O⟩ = f at *
  generalize Fc.made ⟨D', M', L', W', O'⟩ = t at *
  have M3 := Lib.hid fun w => Lib.hid (Pushes_any f t w hf ht)
  by_cases hD : (f.reached t).D ≤ t.D
  · have e1 : pushV f t = _ := if_pos hD
    rw [e1] at M3
    exact walk_way ⟨D, M, L, W, O⟩ ⟨D', M', L', W', O'⟩ f t w M1 M2 M3 hf ht hD
  · have e1 : pushV f t = _ := if_neg hD
    rw [e1] at M3
    have h1 : 1 < f.D := by
      have a := hf.2.2.2.2.1
      rcases Int.lt_or_le 1 f.D with h | h
      · exact h
      · exact absurd (Fc.way_of_first ht (by omega)) hD
    exact walk_none ⟨D, M, L, W, O⟩ ⟨D', M', L', W', O'⟩ f t w M1 M2 M3 h1

set_option maxRecDepth 100000 in
theorem lifted (os : Os) (started : os.Started) (H : Type) (enc : TypeId × Value → H) :
    ReturnsInHanded {} Try.checked os 18 .any (Rows.dialFollowsSpec.pre6 enc Try.prog Try.f18 Rows.dialFollowsRow.domain false) (Rows.dialFollowsSpec.post enc Try.prog Try.f18 false true false false) := by
  refine returnsInHanded_of_change (C := Try.checked) Try.own started (by kernel_rfl) Try.func18
    (ChangeSpec.witness6 (enc := enc) (C := Try.checked) false ⟨#[], #[.agg #[.int .i64 0, .int .i64 0, .int .i64 0, .int .i64 0, .int .i64 0], .agg #[.int .i64 0, .int .i64 0, .int .i64 0, .int .i64 0, .int .i64 0]], []⟩ 8 (by kernel_rfl) (by kernel_rfl) (by kernel_rfl) (by kernel_rfl)) ?_
  intro W base args ds gs before hval0 hW hcnd _
  have hval : ∀ (j : Nat) t v, Try.f18.params[j]? = some t → args[j]? = some v → Value.okWide Try.prog W .any base t v := hval0
  have hW' := hW
  obtain ⟨p, q, hA0, hV, rfl, hfz, hnd⟩ := hW
  have hA : DataW.TrodAll enc Try.prog W 0 (fun _ => true) true Try.f18.params.toList args.toList ds p := hA0
  rw [Try.params18] at hA hval
  obtain ⟨v0, vs0, d0, ds0, p0, q0, hargs, rfl, rfl, h0, r0⟩ := trodAll_cons hA
  obtain ⟨v1, vs1, d1, ds1, p1, q1, rfl, rfl, rfl, h1, r1⟩ := trodAll_cons r0
  obtain ⟨rfl, rfl, rfl⟩ := trodAll_nil r1
  obtain rfl : args = #[v0, v1] := by cases args; simp_all
  obtain ⟨rfl, rfl⟩ := trodVars_none hV
  obtain ⟨a00, a01, a02, a03, a04, rfl⟩ := open_F (hval 0 52 v0 rfl rfl) h0
  obtain ⟨a10, a11, a12, a13, a14, rfl⟩ := open_F (hval 1 52 v1 rfl rfl) h1
  refine (walk a00 a01 a02 a03 a04 a10 a11 a12 a13 a14 W).mono fun e W' ⟨he, hb⟩ => ?_
  exact ⟨_, he, law_post rfl (by kernel_rfl) (by kernel_rfl) hW' rfl rfl rfl hb⟩

set_option maxRecDepth 100000 in
theorem facts : joinedFacts Try.prog 18 Try.f18 Rows.dialFollowsSpec Rows.dialFollowsRow = true := by
  unfold joinedFacts
  repeat' (with_reducible refine and_t ?_ ?_)
  all_goals first
    | with_reducible exact Try.enters
    | (rw [Try.finals]; as_aux_lemma => kernel_rfl)
    | (rw [Try.made]; as_aux_lemma => kernel_rfl)
    | (as_aux_lemma => kernel_rfl)

theorem proved : Rows.DialFollowsSaid :=
  OpenClaim.holds_of_wide 18 Try.f18 rfl rfl rfl rfl rfl rfl rfl ⟨rfl, rfl, rfl, rfl, rfl⟩ rfl rfl rfl rfl rfl (by as_aux_lemma => kernel_rfl) Try.func18 facts
    (of_decide_eq_true (by as_aux_lemma => kernel_rfl)) (by unfold Func.isWrapper; rw [if_neg (of_decide_eq_false (by kernel_rfl))]; exact ⟨rfl, rfl⟩)
    (fun os started H enc _ => lifted os started H enc)
#print axioms proved
end Go.Proofs.Ytjlnkghjiaglmaa.dialFollows
