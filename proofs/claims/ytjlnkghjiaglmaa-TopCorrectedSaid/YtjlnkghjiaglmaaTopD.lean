/-
  The walk of the law about a calendar that has run past 2100: the face is set to the first of the month, since its day is too great.
  Conditions: the contracts of what is called.
-/
import Derived.Test.YtjlnkghjiaglmaaOpens
import Derived.Test.YtjlnkghjiaglmaaTopm
import Derived.Test.YtjlnkghjiaglmaaEdge
import Derived.Test.YtjlnkghjiaglmaaCorr3
import Derived.Test.YtjlnkghjiaglmaaLives
import Derived.Test.YtjlnkghjiaglmaaFmath
namespace Go.Proofs.Ytjlnkghjiaglmaa.topCorrected
open Go.ChangeShapes Go.WideShapes Go.ChangeAt Go.RowKit

attribute [local go_sem] Oper.growAt Oper.growUpon

set_option maxRecDepth 100000 in
set_option maxHeartbeats 8000000 in
theorem walk_day (y m d y' m' d' nights more a b c nD nF nW nO : Int) (f h t g : Fc) (w : World) (F0 : Hid (∀ w, Hid (Calls Try.prog 55 #[.int .i64 nights, .int .i64 20000] w fun e w' => e = .returned (.int .i64 a) ∧ w = w'))) (F1 : Hid (∀ w, Hid (Calls Try.prog 55 #[.int .i64 more, .int .i64 3000] w fun e w' => e = .returned (.int .i64 b) ∧ w = w'))) (F2 : Hid (∀ w, Hid (Calls Try.prog 55 #[.int .i64 a, .int .i64 9000] w fun e w' => e = .returned (.int .i64 c) ∧ w = w'))) (D1 : Hid (∀ w, Hid (Calls Try.prog 43 #[.int .i64 (766644 - c)] w fun e w' => e = .returned (.tuple #[D3 y m d, .int .i64 0]) ∧ Below w.heap.size w w'))) (S1 : Hid (∀ w, Hid (Calls Try.prog 37 #[D3 y m d, .int .i64 7] w fun e w' => e = .returned (.tuple #[f.val, .int .i64 0]) ∧ Below w.heap.size w w'))) (MN : Hid (∀ w, Hid (Calls Try.prog 50 #[f.val, .int .i64 (c + b)] w fun e w' => e = .returned (.tuple #[h.val, .int .i64 0]) ∧ Below w.heap.size w w'))) (D2 : Hid (∀ w, Hid (Calls Try.prog 43 #[.int .i64 (766644 + b)] w fun e w' => e = .returned (.tuple #[D3 y' m' d', .int .i64 0]) ∧ Below w.heap.size w w'))) (S2 : Hid (∀ w, Hid (Calls Try.prog 37 #[D3 y' m' d', .int .i64 7] w fun e w' => e = .returned (.tuple #[t.val, .int .i64 0]) ∧ Below w.heap.size w w'))) (D0 : Hid (∀ w, Hid (Calls Try.prog 43 #[.int .i64 766644] w fun e w' => e = .returned (.tuple #[D3 2100 1 1, .int .i64 0]) ∧ Below w.heap.size w w'))) (SH : Hid (∀ w, Hid (Calls Try.prog 38 #[h.val, D3 y' m' d'] w fun e w' => e = .returned (.tuple #[.bool (decide (b < 59)), .int .i64 0]) ∧ Below w.heap.size w w'))) (PU : Hid (∀ w, Hid (Calls Try.prog 56 #[g.val, t.val] w fun e w' => e = .returned (.tuple #[.int .i64 nD, .int .i64 nF, .int .i64 nW, .int .i64 nO, .int .i64 0]) ∧ Below w.heap.size w w'))) (SH2 : Hid (∀ w, Hid (Calls Try.prog 38 #[t.val, D3 y' m' d'] w fun e w' => e = .returned (.tuple #[.bool true, .int .i64 0]) ∧ Below w.heap.size w w'))) (_a1 : 0 ≤ a) (_a2 : a < 20000) (b1 : 0 ≤ b) (b2 : b < 3000) (c1 : 0 ≤ c) (c2 : c < 9000) (S4 : Hid (Fc.stage g t 4 = t)) (hst : Hid (∀ i, (Fc.stage g t i).ok)) (hob : Hid (∀ i, i < 4 → 0 ≤ (Fc.often g t).getD i 0 ∧ (Fc.often g t).getD i 0 ≤ 58)) (HT : Hid (Fc.often g t = [nF, nD, nW, nO])) (gE : Hid (g.cells = #[.int .i64 1, .int .i64 t.M, .int .i64 t.L, .int .i64 h.W, .int .i64 h.O])) (u1 : decide (t.D < h.D) = true) :
    Calls Try.prog 15 #[.int .i64 nights, .int .i64 more] w fun e w' => e = .returned (.bool true) ∧ Below w.heap.size w w' := by
  go_enter Try.func15, Try.ntmps15
  have hw0 : Below w.heap.size w w := Below.refl _ _
  go_wp2_with fail
  refine ((F0.out _).out).mono ?_; rintro e w' ⟨rfl, rfl⟩
  go_wp2_with fail
  refine ((F1.out _).out).mono ?_; rintro e w' ⟨rfl, rfl⟩
  go_wp2_with fail
  refine ((F2.out _).out).mono ?_; rintro e w' ⟨rfl, rfl⟩
  go_wp2_with fail
  refine ((D1.out _).out).mono ?_; rintro e w1 ⟨rfl, hb1⟩
  have hw1 := hw0.trans (hb1.mono (by first | omega | (simp; omega) | simp))
  have s1 := hb1.size
  go_wp2_with fail
  refine ((S1.out _).out).mono ?_; rintro e w2 ⟨rfl, hb2⟩
  have hA2 := (Blk.new w1 30 #[.int .i64 y, .int .i64 m, .int .i64 d]).later hb2
  have hw2 := (hw1.alloc (by first | omega | (simp; omega) | simp) _).trans (hb2.mono (by first | omega | (simp; omega) | simp))
  have s2 := hb2.size
  simp at s2
  have lA2 := hA2.lt
  have kA := hA2.cell
  go_wp2_with fail
  have hF3 := Blk.new w2 52 f.cells
  have hw3 := hw2.alloc (by first | omega | (simp; omega) | simp) (.cells f.cells 52)
  have hx := later_cell (w := w2.alloc (.cells f.cells 52))
  clear kA
  have hwr : IntKind.i64.wrap (c + b) = c + b := by rw [IntKind.wrap_i64]; omega
  refine wp_region_fresh_edge 10 8 10 [0, 1, 2, 3, 4, 5, 6, 7, 8] [(9, .cells Z5 52, fun b => .pointer (some ⟨b, 0, none⟩))] (by kernel_rfl) (by kernel_rfl) (by kernel_rfl) (by kernel_rfl) rfl (fun d _ _ _ _ h => by cases d <;> exact h) ?_
  simp only [List.map_cons, List.map_nil, List.getElem?_toArray, List.getElem?_cons_zero, List.getElem?_cons_succ, Option.getD_some, List.drop_succ_cons, List.drop_zero]
  iterate 2 (refine wpGrow_step (fun K hK => ?_); go_simp; refine hK _ ?_; clear hK K)
  refine wpGrow_step (fun K hK => ?_)
  go_simp
  apply Exists.intro; refine ⟨fun _ => ((F2.out _).out).mono fun _ _ hh => ⟨hh.1, hh.2 ▸ Below.refl _ _⟩, hK _ ?_⟩; clear hK K
  iterate 2 (refine wpGrow_step (fun K hK => ?_); go_simp; (try rw [hwr]); refine hK _ ?_; clear hK K)
  refine wpGrow_step (fun K hK => ?_)
  go_simp
  apply Exists.intro; refine ⟨fun _ => (MN.out _).out, hK _ ?_⟩; clear hK K
  iterate 3 (refine wpGrow_step (fun K hK => ?_); go_simp; refine hK _ ?_; clear hK K)
  refine wpGrow_nil ?_
  refine ⟨_, rfl, rfl, fun x => by go_simp, fun b9 => ?_⟩
  intro w5 hb5 hl5 _
  have h17 := hl5 (b9, .cells Z5 52) (by simp)
  have g17 : (w2.alloc (.cells f.cells 52)).heap.size ≤ b9 := h17.1
  have hQ : Blk w5 b9 52 Z5 := h17.2.2
  have hw5 := hw3.trans (hb5.mono hw3.size)
  simp at g17
  have s3 := hw2.size
  have q9 : w.heap.size ≤ b9 := by omega
  clear hl5 h17 hx hF3 hA2 hw3 hb5 lA2
  have cQ := hQ.cell
  have fQ := hQ.frozen
  have zQ := hQ.lt
  simp only [Act.put, List.setIfInBounds_toArray]
  go_wp2_with fail
  refine (D2.out _).out.mono ?_; rintro e w6 ⟨rfl, hb6⟩
  have hH6 := (((((hQ.set_ 0 (.int .i64 h.D)).set_ 1 (.int .i64 h.M)).set_ 2 (.int .i64 h.L)).set_ 3 (.int .i64 h.W)).set_ 4 (.int .i64 h.O)).later hb6
  have hw6 := (((((hw5.setCell q9 _).setCell q9 _).setCell q9 _).setCell q9 _).setCell q9 _).trans (hb6.mono (((((hw5.setCell q9 _).setCell q9 _).setCell q9 _).setCell q9 _).setCell q9 _).size)
  have lH6 := hH6.lt
  clear cQ fQ zQ hQ hw5 hb6
  have kH := hH6.cell
  go_wp2_with fail
  refine ((S2.out _).out).mono ?_; rintro e w7 ⟨rfl, hb7⟩
  have hH7 := (hH6.alloc _).later hb7
  have hN7 := (Blk.new w6 30 #[.int .i64 y', .int .i64 m', .int .i64 d']).later hb7
  have hw7 := (hw6.alloc (by first | omega | (simp; omega) | simp) _).trans (hb7.mono (by first | omega | (simp; omega) | simp))
  have s7 := hb7.size
  simp at s7
  have lH7 := hH7.lt
  have lN7 := hN7.lt
  clear kH
  have kH := hH7.cell
  have kN := hN7.cell
  go_wp2_with fail
  refine ((D0.out _).out).mono ?_; rintro e w8 ⟨rfl, hb8⟩
  have hH8 := (hH7.alloc _).later hb8
  have hN8 := (hN7.alloc _).later hb8
  have hT8 := (Blk.new w7 52 t.cells).later hb8
  have hw8 := (hw7.alloc (by first | omega | (simp; omega) | simp) _).trans (hb8.mono (by first | omega | (simp; omega) | simp))
  have s8 := hb8.size
  simp at s8
  have lH8 := hH8.lt
  have lN8 := hN8.lt
  have lT8 := hT8.lt
  clear kH kN
  have kH := hH8.cell
  have kN := hN8.cell
  have kT := hT8.cell
  go_wp2_with fail
  refine ((SH.out _).out).mono ?_; rintro e w9 ⟨rfl, hb9⟩
  have hH9 := (hH8.alloc _).later hb9
  have hN9 := (hN8.alloc _).later hb9
  have hT9 := (hT8.alloc _).later hb9
  have hB9 := (Blk.new w8 30 #[.int .i64 2100, .int .i64 1, .int .i64 1]).later hb9
  have hw9 := (hw8.alloc (by first | omega | (simp; omega) | simp) _).trans (hb9.mono (by first | omega | (simp; omega) | simp))
  have s9 := hb9.size
  simp at s9
  have lH9 := hH9.lt
  have lN9 := hN9.lt
  have lT9 := hT9.lt
  have lB9 := hB9.lt
  clear kH kN kT
  have kH := hH9.cell
  have kN := hN9.cell
  have kT := hT9.cell
  have kB := hB9.cell
  have eT : ∃ Tb, Tb = w7.heap.size := ⟨_, rfl⟩
  have eN0 : ∃ Nb, Nb = w6.heap.size := ⟨_, rfl⟩
  go_wp2_with fail
  have q1 : w7.heap.size ≠ w9.heap.size := by have := lT9; omega
  have q2 : w6.heap.size ≠ w9.heap.size := by have := lN9; omega
  have q3 : w.heap.size ≤ w9.heap.size := hw9.size
  clear kH kN kT kB
  refine forget2 (F := fun W => Blk W w9.heap.size 52 h.cells ∧ Blk W w7.heap.size 52 t.cells ∧ Blk W w6.heap.size 30 #[.int .i64 y', .int .i64 m', .int .i64 d'] ∧ Below w.heap.size w W) ⟨Blk.new w9 52 h.cells, hT9.alloc (.cells h.cells 52), hN9.alloc (.cells h.cells 52), hw9.alloc (by first | omega | (simp; omega) | simp) (.cells h.cells 52)⟩ ?_
  rintro w10 ⟨hG10, hT10, hN10, hw10⟩
  have tM : Hid (t.cells[1]? = some (.int .i64 t.M)) := rfl
  have tL : Hid (t.cells[2]? = some (.int .i64 t.L)) := rfl
  refine wp_region_held_drew (S := fun W => W.cell? ⟨w7.heap.size, 1, none⟩ = some (.int .i64 t.M) ∧ W.cell? ⟨w7.heap.size, 2, none⟩ = some (.int .i64 t.L)) (by kernel_rfl) ⟨(hT10.cell 1).trans tM.out, (hT10.cell 2).trans tL.out⟩ (fun hHeld => ?_)
  refine wpAnyH_take (i := 0) (v := ?_) rfl (by kernel_rfl) (by kernel_rfl) (by kernel_rfl) (fun _ _ _ h => h) (Or.inl ⟨by rfl, ?hy⟩) (by assumption) ?_
  case hy => (intro w hSw; (try dsimp only at hSw); go_simp; try with_reducible rfl)
  refine wpAnyH_take (i := 1) (v := ?_) rfl (by kernel_rfl) (by kernel_rfl) (by kernel_rfl) (fun _ _ _ h => h) (Or.inl ⟨by rfl, ?hy⟩) (by assumption) ?_
  case hy => (intro w hSw; (try dsimp only at hSw); go_simp; try with_reducible rfl)
  refine wpAnyH_take (i := 2) (v := ?_) rfl (by kernel_rfl) (by kernel_rfl) (by kernel_rfl) (fun _ _ _ h => h) (Or.inl ⟨by rfl, ?hy⟩) (by assumption) ?_
  case hy => (intro w hSw; (try dsimp only at hSw); go_simp; try with_reducible rfl)
  refine wpAnyH_take (i := 3) (v := ?_) rfl (by kernel_rfl) (by kernel_rfl) (by kernel_rfl) (fun _ _ _ h => h) (Or.inl ⟨by rfl, ?hy⟩) (by assumption) ?_
  case hy => (intro w hSw; (try dsimp only at hSw); go_simp; try with_reducible rfl)
  refine wpAnyH_take (i := 4) (v := ?_) rfl (by kernel_rfl) (by kernel_rfl) (by kernel_rfl) (fun _ _ _ h => h) (Or.inl ⟨by rfl, ?hy⟩) (by assumption) ?_
  case hy => (intro w hSw; (try dsimp only at hSw); go_simp; try with_reducible rfl)
  simp only [Act.put, List.setIfInBounds_toArray]
  clear hHeld
  have cG0 := hG10.cell
  have fG0 := hG10.frozen
  refine wpAnyH_ready (rs := [5]) (by kernel_rfl) (by simp) (AllReadyH.cons rfl (fun K hK => ?_) AllReadyH.nil)
  go_simp
  have gs0 := hG10.set_ 0 (.int .i64 1)
  have ts0 := hT10.far (p := ⟨w9.heap.size, 0, none⟩) q1 (.int .i64 1)
  have ns0 := hN10.far (p := ⟨w9.heap.size, 0, none⟩) q2 (.int .i64 1)
  have ws0 := hw10.setCell (p := ⟨w9.heap.size, 0, none⟩) q3 (.int .i64 1)
  refine hK.out _ _ ⟨(ts0.cell 1).trans tM.out, (ts0.cell 2).trans tL.out⟩ (fun hHeld => ?_)
  clear hK K cG0 fG0
  refine wpAnyH_take (i := 6) (v := ?_) rfl (by kernel_rfl) (by kernel_rfl) (by kernel_rfl) (fun _ _ _ h => h) (Or.inl ⟨by rfl, ?hy⟩) (by assumption) ?_
  case hy => (intro w hSw; (try dsimp only at hSw); go_simp; try with_reducible rfl)
  simp only [Act.put, List.setIfInBounds_toArray]
  clear hHeld
  have cG1 := gs0.cell
  have fG1 := gs0.frozen
  refine wpAnyH_ready (rs := [7]) (by kernel_rfl) (by simp) (AllReadyH.cons rfl (fun K hK => ?_) AllReadyH.nil)
  go_simp
  have gs1 := gs0.set_ 1 (.int .i64 t.M)
  have ts1 := ts0.far (p := ⟨w9.heap.size, 1, none⟩) q1 (.int .i64 t.M)
  have ns1 := ns0.far (p := ⟨w9.heap.size, 1, none⟩) q2 (.int .i64 t.M)
  have ws1 := ws0.setCell (p := ⟨w9.heap.size, 1, none⟩) q3 (.int .i64 t.M)
  refine hK.out _ _ ⟨(ts1.cell 1).trans tM.out, (ts1.cell 2).trans tL.out⟩ (fun hHeld => ?_)
  clear hK K cG1 fG1
  refine wpAnyH_take (i := 8) (v := ?_) rfl (by kernel_rfl) (by kernel_rfl) (by kernel_rfl) (fun _ _ _ h => h) (Or.inl ⟨by rfl, ?hy⟩) (by assumption) ?_
  case hy => (intro w hSw; (try dsimp only at hSw); go_simp; try with_reducible rfl)
  simp only [Act.put, List.setIfInBounds_toArray]
  clear hHeld
  have cG2 := gs1.cell
  have fG2 := gs1.frozen
  refine wpAnyH_ready (rs := [9]) (by kernel_rfl) (by simp) (AllReadyH.cons rfl (fun K hK => ?_) AllReadyH.nil)
  go_simp
  have gs2 := gs1.set_ 2 (.int .i64 t.L)
  have ts2 := ts1.far (p := ⟨w9.heap.size, 2, none⟩) q1 (.int .i64 t.L)
  have ns2 := ns1.far (p := ⟨w9.heap.size, 2, none⟩) q2 (.int .i64 t.L)
  have ws2 := ws1.setCell (p := ⟨w9.heap.size, 2, none⟩) q3 (.int .i64 t.L)
  refine hK.out _ _ ⟨(ts2.cell 1).trans tM.out, (ts2.cell 2).trans tL.out⟩ (fun hHeld => ?_)
  clear hK K cG2 fG2
  refine wpAnyH_done (by kernel_rfl) ?_ _
  refine forget2 (F := fun W => Blk W w9.heap.size 52 g.cells ∧ Blk W w7.heap.size 52 t.cells ∧ Blk W w6.heap.size 30 #[.int .i64 y', .int .i64 m', .int .i64 d'] ∧ Below w.heap.size w W) ⟨by rw [gE.out]; exact gs2, ts2, ns2, ws2.drew⟩ ?_
  clear gs0 gs1 gs2 ts0 ts1 ts2 ns0 ns1 ns2 ws0 ws1 ws2
  clear hG10 hT10 hN10 hw10
  rintro w11 ⟨hG, hT, hN, hw⟩
  have eG : ∃ Gb, Gb = w9.heap.size := ⟨_, rfl⟩
  obtain ⟨Tb, eT⟩ := eT
  obtain ⟨Nb, eN0⟩ := eN0
  obtain ⟨Gb, eG⟩ := eG
  rw [← eT] at q1 hT
  rw [← eN0] at q2 hN
  rw [← eG] at q1 q2 q3 hG
  rw [← eG, ← eT, ← eN0]
  have dTG : Tb ≠ Gb := q1
  have dNG : Nb ≠ Gb := q2
  have qGb : w.heap.size ≤ Gb := q3
  clear eG eT eN0 q1 q2 q3 tM tL gE
  clear hH6 lH6 hH7 lH7 hH8 lH8 hH9 lH9 hN7 lN7 hN8 lN8 hN9 lN9 hT8 lT8 hT9 lT9 hB9 lB9 hb7 hw7 s7 hb8 hw8 s8 hb9 hw9 s9
  have cG := hG.cell
  have cT := hT.cell
  have zG0 := hG.lt
  have zT0 := hT.lt
  go_wp2_with fail
  refine (PU.out _).out.mono ?_; rintro e w12 ⟨rfl, hb12⟩
  clear cG cT zG0 zT0
  replace hG := hG.later hb12
  replace hT := hT.later hb12
  replace hN := hN.later hb12
  replace hw := hw.trans (hb12.mono hw.size)
  clear hb12
  go_wp2_with fail
  have qG := (hG.alloc (.cells #[.int .i64 nF, .int .i64 nD, .int .i64 nW, .int .i64 nO] 3)).alloc (.cells #[.int .i64 2, .int .i64 1, .int .i64 3, .int .i64 4] 3)
  have qT := (hT.alloc (.cells #[.int .i64 nF, .int .i64 nD, .int .i64 nW, .int .i64 nO] 3)).alloc (.cells #[.int .i64 2, .int .i64 1, .int .i64 3, .int .i64 4] 3)
  have qN := (hN.alloc (.cells #[.int .i64 nF, .int .i64 nD, .int .i64 nW, .int .i64 nO] 3)).alloc (.cells #[.int .i64 2, .int .i64 1, .int .i64 3, .int .i64 4] 3)
  have qC := (Blk.new w12 3 #[.int .i64 nF, .int .i64 nD, .int .i64 nW, .int .i64 nO]).alloc (.cells #[.int .i64 2, .int .i64 1, .int .i64 3, .int .i64 4] 3)
  have qP := Blk.new1 w12 (.cells #[.int .i64 nF, .int .i64 nD, .int .i64 nW, .int .i64 nO] 3) 3 #[.int .i64 2, .int .i64 1, .int .i64 3, .int .i64 4]
  have sw := hw.size
  have qw := (hw.alloc (by first | omega | (simp; omega) | simp) (.cells #[.int .i64 nF, .int .i64 nD, .int .i64 nW, .int .i64 nO] 3)).alloc (by first | omega | (simp; omega) | simp) (.cells #[.int .i64 2, .int .i64 1, .int .i64 3, .int .i64 4] 3)
  have zG0 := hG.lt
  have zT0 := hT.lt
  have zN0 := hN.lt
  clear hG hT hN hw
  go_loopw [27] (fun i wr => ∃ j : Nat, j ≤ 4 ∧ i = .int .i64 j ∧ Blk wr Gb 52 (Fc.stage g t j).cells ∧ Blk wr w12.heap.size 3 #[.int .i64 nF, .int .i64 nD, .int .i64 nW, .int .i64 nO] ∧ Blk wr (w12.heap.size + 1) 3 #[.int .i64 2, .int .i64 1, .int .i64 3, .int .i64 4] ∧ Blk wr Tb 52 t.cells ∧ Blk wr Nb 30 #[.int .i64 y', .int .i64 m', .int .i64 d'] ∧ Below w.heap.size w wr) (fun i _ => 4 - (intOf i).toNat)
  case atStart => exact ⟨0, by omega, rfl, qG, qC, qP, qT, qN, qw⟩
  case round =>
    clear qG qC qP qT qN qw
    obtain ⟨j, hj, rfl, hG, hC, hP, hT, hN, hbr⟩ := hrel
    by_cases hlt : j < 4
    · have hb4 : decide ((j : Int) < 4) = true := by simp; omega
      have hlt4 : (j : Int) < 4 := by omega
      have hon := hob.out j hlt
      have hwb := Fc.which_bd j hlt
      have eN : Hid ((#[.int .i64 nF, .int .i64 nD, .int .i64 nW, .int .i64 nO] : Array Value)[j]? = some (.int .i64 ((Fc.often g t).getD j 0))) := by
        show _ = _
        rw [HT.out]
        rcases (show j = 0 ∨ j = 1 ∨ j = 2 ∨ j = 3 by omega) with rfl | rfl | rfl | rfl <;> rfl
      have eP : Hid ((#[.int .i64 2, .int .i64 1, .int .i64 3, .int .i64 4] : Array Value)[j]? = some (.int .i64 (Fc.which.getD j 0))) := by
        show _ = _
        rcases (show j = 0 ∨ j = 1 ∨ j = 2 ∨ j = 3 by omega) with rfl | rfl | rfl | rfl <;> rfl
      have HS : Hid (Fc.stage g t (j + 1) = Fc.corrs (Fc.which.getD j 0) ((Fc.often g t).getD j 0).toNat (Fc.stage g t j)) := rfl
      have hsj := hst.out j
      generalize (Fc.often g t).getD j 0 = N at *
      generalize Fc.which.getD j 0 = p at *
      generalize Fc.stage g t j = s at *
      obtain ⟨n1, n2⟩ := hon
      obtain ⟨p1, p2⟩ := hwb
      have hall := Lib.hid (Fc.corrs_ok p hsj)
      clear hsj
      go_wp2_with fail
      go_loopw [28] (fun i wr => ∃ k : Nat, (k : Int) ≤ N ∧ i = .int .i64 k ∧ Blk wr Gb 52 (Fc.corrs p k s).cells ∧ Blk wr w12.heap.size 3 #[.int .i64 nF, .int .i64 nD, .int .i64 nW, .int .i64 nO] ∧ Blk wr (w12.heap.size + 1) 3 #[.int .i64 2, .int .i64 1, .int .i64 3, .int .i64 4] ∧ Blk wr Tb 52 t.cells ∧ Blk wr Nb 30 #[.int .i64 y', .int .i64 m', .int .i64 d'] ∧ Below w.heap.size w wr) (fun i _ => (N - intOf i).toNat)
      case atStart => exact ⟨0, n1, rfl, hG, hC, hP, hT, hN, hbr⟩
      case round =>
        clear hG hC hP hT hN hbr
        obtain ⟨k, hk, rfl, hG, hC, hP, hT, hN, hbr⟩ := hrel
        have cN : wr.cell? ⟨w12.heap.size, j, none⟩ = some (.int .i64 N) := (hC.cell j).trans eN.out
        have zG := hG.lt
        have zC := hC.lt
        have zP := hP.lt
        have zT := hT.lt
        have zN := hN.lt
        by_cases hkl : (k : Int) < N
        · have cP : wr.cell? ⟨w12.heap.size + 1, j, none⟩ = some (.int .i64 p) := (hP.cell j).trans eP.out
          have cG := hG.cell
          have hx := later_cell (w := wr)
          have hk60 : (k : Int) < 60 := by omega
          have hb60 : decide ((k : Int) < 60) = true := by simp; omega
          have hbN : decide ((k : Int) < N) = true := by simp; omega
          have M5 := Lib.hid fun w => Lib.hid (Correct_yes (Fc.corrs p k s) p w (hall.out k) p1 p2)
          go_wp2_with fail
          refine wp_region_fresh_edge 10 8 10 [0, 1, 2, 3, 4, 5, 6, 7, 8] [(9, .cells Z5 52, fun b => .pointer (some ⟨b, 0, none⟩))] (by kernel_rfl) (by kernel_rfl) (by kernel_rfl) (by kernel_rfl) rfl (fun d _ _ _ _ h => by cases d <;> exact h) ?_
          simp only [List.map_cons, List.map_nil, List.getElem?_toArray, List.getElem?_cons_zero, List.getElem?_cons_succ, Option.getD_some, List.drop_succ_cons, List.drop_zero]
          iterate 5 (refine wpGrow_step (fun K hK => ?_); go_simp; refine hK _ ?_; clear hK K)
          refine wpGrow_step (fun K hK => ?_)
          go_simp
          apply Exists.intro; refine ⟨fun _ => (M5.out _).out, hK _ ?_⟩; clear hK K
          iterate 3 (refine wpGrow_step (fun K hK => ?_); go_simp; refine hK _ ?_; clear hK K)
          refine wpGrow_nil ?_
          refine ⟨_, rfl, rfl, fun x => by go_simp, fun b17 => ?_⟩
          intro v5 hb5 hl5 _
          have h17 := hl5 (b17, .cells Z5 52) (by simp)
          have g17 : wr.heap.size ≤ b17 := h17.1
          have hQ : Blk v5 b17 52 Z5 := h17.2.2
          have hG5 := hG.later hb5
          have hC5 := hC.later hb5
          have hP5 := hP.later hb5
          have hT5 := hT.later hb5
          have hN5 := hN.later hb5
          have hbr5 := hbr.trans (hb5.mono hbr.size)
          have sr := hbr.size
          clear hl5 h17 hx cN cP cG
          have cQ := hQ.cell
          have fQ := hQ.frozen
          have zQ := hQ.lt
          have cG := ((((((hG5.far (p := ⟨b17, 0, none⟩) (by first | omega | (simp; omega) | simp) (.int .i64 (Fc.corr p (Fc.corrs p k s)).D)).far (p := ⟨b17, 1, none⟩) (by first | omega | (simp; omega) | simp) (.int .i64 (Fc.corr p (Fc.corrs p k s)).M)).far (p := ⟨b17, 2, none⟩) (by first | omega | (simp; omega) | simp) (.int .i64 (Fc.corr p (Fc.corrs p k s)).L)).far (p := ⟨b17, 3, none⟩) (by first | omega | (simp; omega) | simp) (.int .i64 (Fc.corr p (Fc.corrs p k s)).W)).far (p := ⟨b17, 4, none⟩) (by first | omega | (simp; omega) | simp) (.int .i64 (Fc.corr p (Fc.corrs p k s)).O))).cell
          have fG := ((((((hG5.far (p := ⟨b17, 0, none⟩) (by first | omega | (simp; omega) | simp) (.int .i64 (Fc.corr p (Fc.corrs p k s)).D)).far (p := ⟨b17, 1, none⟩) (by first | omega | (simp; omega) | simp) (.int .i64 (Fc.corr p (Fc.corrs p k s)).M)).far (p := ⟨b17, 2, none⟩) (by first | omega | (simp; omega) | simp) (.int .i64 (Fc.corr p (Fc.corrs p k s)).L)).far (p := ⟨b17, 3, none⟩) (by first | omega | (simp; omega) | simp) (.int .i64 (Fc.corr p (Fc.corrs p k s)).W)).far (p := ⟨b17, 4, none⟩) (by first | omega | (simp; omega) | simp) (.int .i64 (Fc.corr p (Fc.corrs p k s)).O))).frozen
          simp only [Act.put, List.setIfInBounds_toArray]
          go_wp2_with fail
          go_roundw
          case rel =>
            refine ⟨k + 1, by omega, by go_num, ?_, ?_, ?_, ?_, ?_, ?_⟩
            · exact ((((((((((hG5.far (p := ⟨b17, 0, none⟩) (by first | omega | (simp; omega) | simp) _).far (p := ⟨b17, 1, none⟩) (by first | omega | (simp; omega) | simp) _).far (p := ⟨b17, 2, none⟩) (by first | omega | (simp; omega) | simp) _).far (p := ⟨b17, 3, none⟩) (by first | omega | (simp; omega) | simp) _).far (p := ⟨b17, 4, none⟩) (by first | omega | (simp; omega) | simp) _).set_ 0 _).set_ 1 _).set_ 2 _).set_ 3 _).set_ 4 _)
            · exact ((((((((((hC5.far (p := ⟨b17, 0, none⟩) (by first | omega | (simp; omega) | simp) _).far (p := ⟨b17, 1, none⟩) (by first | omega | (simp; omega) | simp) _).far (p := ⟨b17, 2, none⟩) (by first | omega | (simp; omega) | simp) _).far (p := ⟨b17, 3, none⟩) (by first | omega | (simp; omega) | simp) _).far (p := ⟨b17, 4, none⟩) (by first | omega | (simp; omega) | simp) _).far (p := ⟨Gb, 0, none⟩) (by first | omega | (simp; omega) | simp) _).far (p := ⟨Gb, 1, none⟩) (by first | omega | (simp; omega) | simp) _).far (p := ⟨Gb, 2, none⟩) (by first | omega | (simp; omega) | simp) _).far (p := ⟨Gb, 3, none⟩) (by first | omega | (simp; omega) | simp) _).far (p := ⟨Gb, 4, none⟩) (by first | omega | (simp; omega) | simp) _)
            · exact ((((((((((hP5.far (p := ⟨b17, 0, none⟩) (by first | omega | (simp; omega) | simp) _).far (p := ⟨b17, 1, none⟩) (by first | omega | (simp; omega) | simp) _).far (p := ⟨b17, 2, none⟩) (by first | omega | (simp; omega) | simp) _).far (p := ⟨b17, 3, none⟩) (by first | omega | (simp; omega) | simp) _).far (p := ⟨b17, 4, none⟩) (by first | omega | (simp; omega) | simp) _).far (p := ⟨Gb, 0, none⟩) (by first | omega | (simp; omega) | simp) _).far (p := ⟨Gb, 1, none⟩) (by first | omega | (simp; omega) | simp) _).far (p := ⟨Gb, 2, none⟩) (by first | omega | (simp; omega) | simp) _).far (p := ⟨Gb, 3, none⟩) (by first | omega | (simp; omega) | simp) _).far (p := ⟨Gb, 4, none⟩) (by first | omega | (simp; omega) | simp) _)
            · exact ((((((((((hT5.far (p := ⟨b17, 0, none⟩) (by first | omega | (simp; omega) | simp) _).far (p := ⟨b17, 1, none⟩) (by first | omega | (simp; omega) | simp) _).far (p := ⟨b17, 2, none⟩) (by first | omega | (simp; omega) | simp) _).far (p := ⟨b17, 3, none⟩) (by first | omega | (simp; omega) | simp) _).far (p := ⟨b17, 4, none⟩) (by first | omega | (simp; omega) | simp) _).far (p := ⟨Gb, 0, none⟩) (by first | omega | (simp; omega) | simp) _).far (p := ⟨Gb, 1, none⟩) (by first | omega | (simp; omega) | simp) _).far (p := ⟨Gb, 2, none⟩) (by first | omega | (simp; omega) | simp) _).far (p := ⟨Gb, 3, none⟩) (by first | omega | (simp; omega) | simp) _).far (p := ⟨Gb, 4, none⟩) (by first | omega | (simp; omega) | simp) _)
            · exact ((((((((((hN5.far (p := ⟨b17, 0, none⟩) (by first | omega | (simp; omega) | simp) _).far (p := ⟨b17, 1, none⟩) (by first | omega | (simp; omega) | simp) _).far (p := ⟨b17, 2, none⟩) (by first | omega | (simp; omega) | simp) _).far (p := ⟨b17, 3, none⟩) (by first | omega | (simp; omega) | simp) _).far (p := ⟨b17, 4, none⟩) (by first | omega | (simp; omega) | simp) _).far (p := ⟨Gb, 0, none⟩) (by first | omega | (simp; omega) | simp) _).far (p := ⟨Gb, 1, none⟩) (by first | omega | (simp; omega) | simp) _).far (p := ⟨Gb, 2, none⟩) (by first | omega | (simp; omega) | simp) _).far (p := ⟨Gb, 3, none⟩) (by first | omega | (simp; omega) | simp) _).far (p := ⟨Gb, 4, none⟩) (by first | omega | (simp; omega) | simp) _)
            · have q1 : w.heap.size ≤ b17 := by omega
              have q2 : w.heap.size ≤ Gb := by omega
              exact (((((((((hbr5.setCell q1 _).setCell q1 _).setCell q1 _).setCell q1 _).setCell q1 _).setCell q2 _).setCell q2 _).setCell q2 _).setCell q2 _).setCell q2 _
          case measure => simp [intOf]; omega
        · have hkN : N.toNat = k := by omega
          have HS2 := Lib.hid (show Fc.stage g t (j + 1) = Fc.corrs p k s by rw [HS.out, hkN])
          have hbN : decide ((k : Int) < N) = false := by simp; omega
          clear hkN
          go_wp2_with fail
          go_roundw
          case rel =>
            refine ⟨j + 1, by omega, by go_num, ?_, hC, hP, hT, hN, hbr⟩
            rw [HS2.out]
            exact hG
          case measure => simp [intOf]; omega
    · obtain rfl : j = 4 := by omega
      rw [S4.out] at hG
      have cG := hG.cell
      have cT := hT.cell
      have cN := hN.cell
      have zG := hG.lt
      have zT := hT.lt
      have zN := hN.lt
      go_wp2_with fail
      refine (SH2.out _).out.mono ?_; rintro e v6 ⟨rfl, hb6⟩
      have hG6 := hG.later hb6
      have hT6 := hT.later hb6
      clear cG cT cN
      have cG := hG6.cell
      have cT := hT6.cell
      have zG6 := hG6.lt
      have zT6 := hT6.lt
      go_wp2_with fail
      go_ret
      exact ⟨rfl, hbr.trans (hb6.mono hbr.size)⟩

end Go.Proofs.Ytjlnkghjiaglmaa.topCorrected
