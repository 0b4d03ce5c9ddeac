/-
  The walk of the law on Sweep and Crowded.
  No conditions.
-/
import Derived.Test.YtnfcigbiebbjdaaSwE
import Derived.Test.YtnfcigbiebbjdaaRSw
import Derived.Test.YtnfcigbiebbjdaaCwB
namespace Go.Proofs.Ytnfcigbiebbjdaa
open Go.RowKit

theorem eqb_self6 (x : Int) : (x == x) = true := by simp
theorem few_len6 (x : List Jb) (n q : Nat) (hq : q ≤ 64) : ((x.take (fewN n q)).map cutJ).length ≤ 65 := by
  rw [List.length_map, List.length_take]
  unfold fewN
  split <;> omega
theorem neb_self6 (x : Int) : (x != x) = false := by simp
theorem sflat_at : ∀ {os : List Sl} {i : Nat} {s : Sl}, os[i]? = some s → ∀ k, k < 3 → (sflat os)[i * 3 + k]? = s.cells[k]?
  | [], i, s, h, k, hk => by simp at h
  | z :: os, 0, s, h, k, hk => by
    simp only [List.getElem?_cons_zero, Option.some.injEq] at h
    subst h
    simp only [sflat]
    rw [List.getElem?_append_left (by simp only [Sl.cells, List.length_cons, List.length_nil]; omega), Nat.zero_mul, Nat.zero_add]
  | z :: os, i + 1, s, h, k, hk => by
    simp only [List.getElem?_cons_succ] at h
    simp only [sflat]
    rw [List.getElem?_append_right (by simp only [Sl.cells, List.length_cons, List.length_nil]; omega), show (i + 1) * 3 + k - z.cells.length = i * 3 + k by simp only [Sl.cells, List.length_cons, List.length_nil]; omega]
    exact sflat_at h k hk
theorem OutO.at_ {w : World} {M : Nat} {v : Value} {os : List Sl} (h : OutO w M v os) {i : Nat} (hi : i < os.length) :
    ∃ (g c : Nat) (s : Sl), v = .slice (some ⟨g, 0, none⟩) os.length c ∧ g < w.heap.size ∧ os[i]? = some s ∧ w.cell? ⟨g, i * 3, none⟩ = some (.int .i64 s.job) ∧ w.cell? ⟨g, i * 3 + 1, none⟩ = some (.int .i64 s.fr) ∧ w.cell? ⟨g, i * 3 + 2, none⟩ = some (.int .i64 s.till) := by
  obtain ⟨g, c, e, _, _, hg, _⟩ := h.form (by omega)
  subst e
  have hs : os[i]? = some os[i] := List.getElem?_eq_getElem hi
  have hl := sflat_len os
  have key : ∀ k, k < 3 → w.cell? ⟨g, i * 3 + k, none⟩ = (os[i]).cells[k]? := fun k hk => by
    have h1 := World.ownsRow.cellAt h (i * 3 + k) (by omega)
    rw [sflat_at hs k hk] at h1
    exact h1
  exact ⟨g, c, os[i], rfl, hg, hs, key 0 (by omega), key 1 (by omega), key 2 (by omega)⟩
theorem OutO.later {w w' : World} {M : Nat} {v : Value} {os : List Sl} (h : OutO w M v os) (hb : Below w.heap.size w w') : OutO w' M v os :=
  h.fix (S := fun k => k < w.heap.size) (Fix.of_below hb fun _ hk => hk) fun _ hg => (h.typ hg).2.1
theorem OutO.same {w : World} {M M' : Nat} {v v' : Value} {os : List Sl} (h : OutO w M v os) (h' : OutO w M' v' os) {i : Nat} (hi : i < os.length) :
    ∃ (g c g' c' : Nat) (s : Sl), v = .slice (some ⟨g, 0, none⟩) os.length c ∧ v' = .slice (some ⟨g', 0, none⟩) os.length c' ∧ g < w.heap.size ∧ g' < w.heap.size ∧ (w.cell? ⟨g, i * 3, none⟩ = some (.int .i64 s.job) ∧ w.cell? ⟨g, i * 3 + 1, none⟩ = some (.int .i64 s.fr) ∧ w.cell? ⟨g, i * 3 + 2, none⟩ = some (.int .i64 s.till)) ∧
      (w.cell? ⟨g', i * 3, none⟩ = some (.int .i64 s.job) ∧ w.cell? ⟨g', i * 3 + 1, none⟩ = some (.int .i64 s.fr) ∧ w.cell? ⟨g', i * 3 + 2, none⟩ = some (.int .i64 s.till)) := by
  obtain ⟨g, c, s, e, h1, h2, h3⟩ := h.at_ hi
  obtain ⟨g', c', s', e', h1', h2', h3'⟩ := h'.at_ hi
  rw [h2] at h2'
  injection h2' with e2
  subst e2
  exact ⟨g, c, g', c', s, e, e', h1, h1', h3, h3'⟩

set_option maxRecDepth 100000 in
set_option maxHeartbeats 8000000 in
theorem walkSws (A : Option Addr) (n c : Nat) (x : List Jb) (w : World) (rA : JobsA w A n x) (hc : n ≤ c) (hnil : A = none → c = 0) :
    Calls Try.prog 9 #[.slice A n c] w fun e w' => e = .returned (.bool true) ∧ Below w.heap.size w w' := by
  have hxl : x.length = n := rA.1
  go_enter Try.func9, Try.ntmps9
  go_wp2_with fail
  refine (few_any A n c 64 x w rA hc hnil (by omega)).mono ?_
  rintro e1 w1 ⟨A1, c1, rfl, hJ, hb1⟩
  have hm : ∀ (k : Nat) (j : Jb), ((x.take (fewN n 64)).map cutJ)[k]? = some j → j.after.length ≤ 1000 := fun k j h => cut_after h
  have hfl := few_len6 x n 64 (by omega)
  clear rA hnil hxl
  generalize (x.take (fewN n 64)).map cutJ = js at *
  generalize hN : js.length = N at *
  have HM := Lib.hid hm
  clear hm
  by_cases hv : validB js = true
  case neg =>
    rw [Bool.not_eq_true] at hv
    have HV := Lib.hid hv
    have S1 := Lib.hid (Sweep_no A1 N c1 js w1 hJ HM.out (by omega) hv)
    clear hv
    go_wp2_with fail
    refine S1.out.mono ?_
    rintro e2 w2 ⟨rfl, hb2⟩
    have hJ2 := hJ.later hb2
    have hw2 := hb1.trans (hb2.mono hb1.size)
    have C1 := Lib.hid (Crowded_no A1 N c1 js w2 hJ2 HM.out (by omega) HV.out)
    clear S1 hJ hb1 hb2
    go_wp2_with fail
    refine C1.out.mono ?_
    rintro e3 w3 ⟨rfl, hb3⟩
    have hJ3 := hJ2.later hb3
    have hw3 := hw2.trans (hb3.mono hw2.size)
    have V1 := Lib.hid (Valid_any A1 N c1 js w3 hJ3 HM.out)
    rw [HV.out] at V1
    clear C1 hJ2 hw2 hb3
    go_wp2_with fail
    refine V1.out.mono ?_
    rintro e4 w4 ⟨rfl, hb4⟩
    have hw4 := hw3.trans (hb4.mono hw3.size)
    clear V1 hJ3 hw3 hb4
    go_wp2_with fail
    refine (lives_any _).mono ?_
    rintro e5 w5 ⟨rfl, hb5⟩
    have hfin := hw4.trans (hb5.mono hw4.size)
    go_wp2_with fail
    go_ret
    exact ⟨rfl, hfin⟩
  case pos =>
    have HV := Lib.hid hv
    have hN64 : N ≤ 64 := by
      have h := hv
      unfold validB at h
      simp only [Bool.and_eq_true, decide_eq_true_eq] at h
      rw [← hN]; exact h.1
    have S1 := Lib.hid (Sweep_yes A1 N c1 js w1 hJ hv)
    clear hv hfl
    go_wp2_with fail
    refine S1.out.mono ?_
    rintro e2 w2 ⟨v1, s, m, rfl, hRe, hDo, hLm, hOu, hb2⟩
    have HRe := Lib.hid hRe
    have HDo := Lib.hid hDo
    have HLm := Lib.hid hLm
    have hsh := ((Short.start js N).reach (fun i => (jat_calm HV.out i).2.2.2.2.2) (Sound.start (validB_fair HV.out)) hRe).le
    have hle : s.out.reverse.length ≤ 128 := by rw [List.length_reverse]; omega
    have hJ2 := hJ.later hb2
    have hw2 := hb1.trans (hb2.mono hb1.size)
    obtain ⟨fe, HFe, C1⟩ : ∃ fe : Int, Hid ((N = 0 → fe = 6) ∧ (N ≠ 0 → fe = 0)) ∧ Hid (Calls Try.prog 36 #[.slice A1 N c1] w2 fun e w' => e = .returned (.tuple #[.int .i64 (cwAll js N N).r, .int .i64 (cwAll js N N).d, .int .i64 fe]) ∧ Below w2.heap.size w2 w') := by
      by_cases h0 : N = 0
      · subst h0
        obtain rfl : js = [] := List.length_eq_zero_iff.1 hN
        exact ⟨6, ⟨fun _ => rfl, fun h => absurd rfl h⟩, Crowded_none A1 c1 w2 hJ2⟩
      · exact ⟨0, ⟨fun h => absurd h h0, fun _ => rfl⟩, Crowded_yes A1 N c1 js w2 hJ2 HV.out (by omega)⟩
    have hcr : Hid (N = 0 → (cwAll js N N).r = 0 ∧ (cwAll js N N).d = 0) := fun h => by subst h; exact ⟨rfl, rfl⟩
    clear S1 hRe hDo hLm hJ hb1 hb2 hsh hN
    obtain ⟨cw, hcw⟩ : ∃ cw, cw = cwAll js N N := ⟨_, rfl⟩
    rw [← hcw] at C1 hcr
    have HCw := Lib.hid hcw
    clear hcw
    go_wp2_with fail
    refine C1.out.mono ?_
    rintro e3 w3 ⟨rfl, hb3⟩
    have hJ3 := hJ2.later hb3
    have hO3 := hOu.later hb3
    have hw3 := hw2.trans (hb3.mono hw2.size)
    have V1 := Lib.hid (Valid_any A1 N c1 js w3 hJ3 HM.out)
    rw [HV.out] at V1
    clear C1 hJ2 hOu hw2 hb3
    go_wp2_with fail
    refine V1.out.mono ?_
    rintro e4 w4 ⟨rfl, hb4⟩
    have hJ4 := hJ3.later hb4
    have hO4 := hO3.later hb4
    have hw4 := hw3.trans (hb4.mono hw3.size)
    have R1 := Lib.hid (rSweep_yes A1 N c1 js w4 hJ4 HV.out)
    clear V1 hJ3 hO3 hw3 hb4
    go_wp2_with fail
    refine R1.out.mono ?_
    rintro e5 w5 ⟨v2, s', m', rfl, hRe', hDo', hLm', hOu', hb5⟩
    obtain rfl : s = s' := HRe.out.uniq hRe' HDo.out hDo'
    obtain rfl : m = m' := HLm.out.uniq hLm'
    have hJ5 := hJ4.later hb5
    have hO5 := hO4.later hb5
    have hw5 := hw4.trans (hb5.mono hw4.size)
    clear R1 hRe' hDo' hLm' hJ4 hO4 hw4 hb5 HRe HDo HLm
    generalize s.out.reverse = os at *
    have f1 := eqb_self6 m
    have f2 := eqb_self6 (os.length : Int)
    obtain ⟨a, ca, e1⟩ := hO5.short
    obtain ⟨b, cb, e2⟩ := hOu'.short
    subst e1 e2
    obtain ⟨L, hL⟩ : ∃ L, L = os.length := ⟨_, rfl⟩
    rw [← hL] at hO5 hOu' f2 hle ⊢
    have HL := Lib.hid hL
    clear hL
    go_wp2_with fail
    refine (lives_any _).mono ?_
    rintro e6 w6 ⟨rfl, hb6⟩
    have hJ6 := hJ5.later hb6
    have hO6 := hO5.later hb6
    have hP6 := hOu'.later hb6
    have hw6 := hw5.trans (hb6.mono hw5.size)
    clear hJ5 hO5 hOu' hw5 hb6
    go_wp2_with fail
    go_loopw [12] (fun i wr => ∃ k : Nat, k ≤ L ∧ i = .int .i64 k ∧ Below w6.heap.size w6 wr) (fun i _ => L - (intOf i).toNat)
    case atStart => exact ⟨0, Nat.zero_le _, rfl, Below.refl _ _⟩
    case round =>
      obtain ⟨k, hk, rfl, hbk⟩ := hrel
      by_cases hlt : k < L
      · have hbt : decide ((k : Int) < (L : Int)) = true := by simp; omega
        have hbt2 : (k : Int) < (L : Int) := by omega
        obtain ⟨g, c, g', c', z, e1, e2, hg, hg', ⟨x0, x1, x2⟩, ⟨y0, y1, y2⟩⟩ := (hO6.later hbk).same (hP6.later hbk) (i := k) (by rw [← HL.out]; exact hlt)
        cases e1
        cases e2
        have z0 := eqb_self6 z.job
        have z1 := eqb_self6 z.fr
        have z2 := eqb_self6 z.till
        have hB := Lib.hid hbk
        clear hbk
        go_wp2_with fail
        go_quiet (fail)
        go_wp2_with fail
        go_roundw
        case rel => exact ⟨k + 1, by omega, by go_num, hB.out.trans ((below_drewN (Below.refl _ _) _).mono hB.out.size)⟩
        case measure => simp [intOf]; omega
      · obtain rfl : k = L := by omega
        have hbt : decide ((k : Int) < (k : Int)) = false := by simp
        have hJ7 := hJ6.later hbk
        have hw7 := hw6.trans (hbk.mono hw6.size)
        clear hJ6 hO6 hP6 hw6 hbk
        by_cases h0 : N = 0
        · have hc0 := hcr.out h0
          obtain ⟨c0, c1'⟩ := hc0
          obtain rfl : fe = 6 := HFe.out.1 h0
          rw [c0, c1']
          subst h0
          have hz : (((0 : Nat) : Int) == 0) = true := by decide
          go_wp2_with fail
          go_ret
          exact ⟨rfl, hw7⟩
        · have hN0 : ((N : Int) == 0) = false := by simp; omega
          obtain rfl : fe = 0 := HFe.out.2 h0
          have D1 := Lib.hid (rCrowded_yes A1 N c1 js wr hJ7 HV.out)
          rw [← HCw.out] at D1
          have r1 := eqb_self6 cw.r
          have r2 := eqb_self6 cw.d
          clear hJ7
          go_wp2_with fail
          refine D1.out.mono ?_
          rintro e8 w8 ⟨rfl, hb8⟩
          have hfin := hw7.trans (hb8.mono hw7.size)
          go_wp2_with fail
          go_ret
          exact ⟨rfl, hfin⟩
end Go.Proofs.Ytnfcigbiebbjdaa
