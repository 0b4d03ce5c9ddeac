/-
  The document's sweep: the walk.
  Conditions: the jobs are valid; the slices start at the heads of blocks.
-/
import Derived.Test.YtnfcigbiebbjdaaRSwI
import Derived.BigQuiet
import Derived.Deep.CutBlock
import Derived.Deep.CutRange
import Derived.Outline
namespace Go.Proofs.Ytnfcigbiebbjdaa
open Go.RowKit

attribute [local go_sem] Oper.growAt Oper.growUpon
/-- What the document's sweep returns. -/
def RSwR (w : World) (l : List Jb) (n : Nat) (e : Ending) (w' : World) : Prop :=
  ∃ (v : Value) (s : St) (m : Int), e = .returned (.tuple #[v, .int .i64 m]) ∧ Reach l n (start l) s ∧ Done l n s ∧ LateM l n s.fin m ∧ OutO w' w.heap.size v s.out.reverse ∧ Below w.heap.size w w'
theorem tab_next (k : Nat) (f : Int → Int) : tab (k + 1) f = tab k f ++ [f k] := by
  simp [tab, nums_succ]
set_option maxRecDepth 100000 in
set_option maxHeartbeats 4000000 in
theorem rSweep_yes (A : Option Addr) (n c : Nat) (l : List Jb) (w : World) (rA : JobsH w A n l) (hv : validB l = true) : Calls Try.prog 37 #[.slice A n c] w (RSwR w l n) := by
  have hn : n ≤ 64 := by
    have h := hv
    unfold validB at h
    simp only [Bool.and_eq_true, decide_eq_true_eq] at h
    rw [← rA.1]; exact h.1
  have HV := Lib.hid hv
  have hS0 := Lib.hid (Sound.start (n := n) (validB_fair hv))
  have hmk := make_ints n (by omega)
  have hb1 : Below w.heap.size w (w.alloc (.cells #[] 52)) := (Below.refl _ _).alloc (Nat.le_refl _) _
  have hO1 : OutO (w.alloc (.cells #[] 52)) w.heap.size (.slice (some ⟨w.heap.size, 0, none⟩) 0 0) [] := World.ownsRow_made (base := w.heap.size) (e := 52) (size := 3) w #[] 0 (by simp) (by unfold maxLen; omega) (by simp)
  have hs1 : (w.alloc (.cells #[] 52)).heap.size = w.heap.size + 1 := World.size_alloc _ _
  clear hv
  go_enter Try.func37, Try.ntmps37
  go_upto_region 2 with fail
  revert hb1 hO1 hs1
  generalize w.alloc (.cells #[] 52) = w1
  intro hb1 hO1 hs1
  have hm0 : ∀ ww : World, w.heap.size ≤ ww.heap.size → (ww.alloc (.cells #[] 3)).ownsRow w.heap.size 3 1 (.slice (some ⟨ww.heap.size, 0, none⟩) 0 0) 0 (([] : List Int).map (Value.int .i64)) := fun ww h => World.ownsRow_made (base := w.heap.size) (e := 3) (size := 1) ww #[] 0 h (by unfold maxLen; omega) (by simp)
  have A1 := own_later (hm0 w1 (by omega)) (((Below.refl (w1.alloc (.cells #[] 3)).heap.size (w1.alloc (.cells #[] 3))).alloc (Nat.le_refl _) (.cells (rowc (List.replicate n 0)) 3)).drew)
  have A2 := (RowT.new (w1.alloc (.cells #[] 3)) n).later (Below.refl _ _).drew
  have A3 : Below w1.heap.size w1 ((w1.alloc (.cells #[] 3)).alloc (.cells (rowc (List.replicate n 0)) 3)).drew := (((Below.refl _ _).alloc (Nat.le_refl _) _).alloc (by rw [World.size_alloc]; omega) _).drew
  have B1 := own_later (hm0 (w1.alloc (.cells (rowc (List.replicate n 0)) 3)) (by rw [World.size_alloc]; omega)) (Below.refl _ _).drew
  have B2 := (RowT.new w1 n).later (((Below.refl _ _).alloc (Nat.le_refl _) (.cells #[] 3)).drew)
  have B3 : Below w1.heap.size w1 ((w1.alloc (.cells (rowc (List.replicate n 0)) 3)).alloc (.cells #[] 3)).drew := (((Below.refl _ _).alloc (Nat.le_refl _) _).alloc (by rw [World.size_alloc]; omega) _).drew
  rw [hs1] at A1 B2
  rw [World.size_alloc, hs1] at A2 B1
  have HA := Lib.hid (And.intro A1 (And.intro A2 A3))
  have HB := Lib.hid (And.intro B1 (And.intro B2 B3))
  clear hm0 A1 A2 A3 B1 B2 B3
  go_cut [5, 6] from 17 to 20 (fun u5 u6 wx => ∃ Lg Dg : Nat, u5 = .slice (some ⟨Lg, 0, none⟩) 0 0 ∧ u6 = .slice (some ⟨Dg, 0, none⟩) n n ∧ wx.ownsRow w.heap.size 3 1 (.slice (some ⟨Lg, 0, none⟩) 0 0) 0 (([] : List Int).map (Value.int .i64)) ∧ RowT wx Dg n (fun _ => 0) ∧ Below w1.heap.size w1 wx ∧ w.heap.size < Lg ∧ w.heap.size < Dg ∧ Lg ≠ Dg)
  case first =>
    go_region
    · go_wp2_with fail
      go_meet
      case rel => exact ⟨_, _, rfl, rfl, HA.out.1, HA.out.2.1, HA.out.2.2, by omega, by omega, by omega⟩
    · go_wp2_with fail
      go_meet
      case rel => exact ⟨_, _, rfl, rfl, HB.out.1, HB.out.2.1, HB.out.2.2, by omega, by omega, by omega⟩
  case rest =>
    obtain ⟨Lg, Dg, rfl, rfl, hL, hD, hb2, o1, o2, ne⟩ := hcut
    have hb3 := hb1.trans (hb2.mono hb1.size)
    have hO3 := hO1.fix (S := fun k => k < w1.heap.size) (Fix.of_below hb2 fun _ hk => hk) fun _ hg => (hO1.typ hg).2.1
    clear HA HB hb1 hb2 hO1 hs1
    generalize hvo : Value.slice (some ⟨w.heap.size, 0, none⟩) 0 0 = vo at *
    have hvo2 : vo.ownBlock = some w.heap.size := by rw [← hvo]; rfl
    have HVo := Lib.hid hvo2
    clear hvo hvo2
    first | go_back | go_step
    go_wp2_with fail
    go_loopw [5, 7] (fun u5 u7 wr => ∃ (k Lg cL : Nat), k ≤ n ∧ u7 = .int .i64 k ∧ u5 = .slice (some ⟨Lg, 0, none⟩) k cL ∧ wr.ownsRow w.heap.size 3 1 (.slice (some ⟨Lg, 0, none⟩) k cL) k ((tab k (fun z => (jat l z).work)).map (Value.int .i64)) ∧ w.heap.size < Lg ∧ Lg ≠ Dg ∧ RowT wr Dg n (fun _ => 0) ∧ OutO wr w.heap.size vo [] ∧ Below w.heap.size w wr) (fun _ i _ => n - (intOf i).toNat)
    case atStart => exact ⟨0, Lg, 0, Nat.zero_le _, rfl, rfl, hL, o1, ne, hD, hO3, hb3⟩
    case round =>
      clear hL o1 ne hD hO3 hb3 Lg
      obtain ⟨k, Lg, cL, hk, rfl, rfl, hL, o1, ne, hD, hO, hb⟩ := hrel
      by_cases hlt : k < n
      · have hbt : decide ((k : Int) < (n : Int)) = true := by simp; omega
        have hbt2 : (k : Int) < (n : Int) := by omega
        obtain ⟨g, B, mB, cB, e1, hgl, hj, c0, c1, c2, c3, c4, _⟩ := rA.both hb hlt
        subst e1
        have HT := Lib.hid (tab_next k (fun z => (jat l z).work))
        obtain ⟨x, hx⟩ : ∃ x, x = (jat l k).work := ⟨_, rfl⟩
        rw [← hx] at c0
        have HX := Lib.hid hx
        have hm1 := hL.alloc (.cells #[.int .i64 x] 3)
        have hri : RowI (wr.alloc (.cells #[.int .i64 x] 3)) (some ⟨wr.heap.size, 0, none⟩) 1 [x] := (row_lit wr [x] 1 rfl).rowI
        have hsz : w.heap.size ≤ (wr.alloc (.cells #[.int .i64 x] 3)).heap.size := by have := hb.size; rw [World.size_alloc]; omega
        clear hj c1 c2 c3 c4 hL hx
        go_wp2_with (at_builtin; refine app_ints_at _ rfl (.tmp 27) (.tmp 33) rfl w.heap.size _ k (tab k (fun z => (jat l z).work)) rfl hm1 (some ⟨wr.heap.size, 0, none⟩) 1 1 [x] rfl hri (by omega) (by omega) hsz ?_)
        intro g2 cap w8 hown8 hgr8 hat
        have hf := fix_app hgr8
        have hD8 := hD.fix hf ⟨hD.lt, fun e => ne (by injection e)⟩
        have hO8 : OutO w8 w.heap.size vo [] := hO.fix hf fun g hg => by
          refine ⟨(hO.typ hg).2.1, fun e => ?_⟩
          rw [HVo.out] at hg
          have h1 : w.heap.size = g := by injection hg
          have h2 : Lg = g := by injection e
          omega
        have hb8 := hb.trans (hf.below fun k hk => ⟨Nat.lt_of_lt_of_le hk hb.size, fun e => by have h2 : Lg = k := (by injection e); omega⟩)
        have hown9 : Hid (w8.ownsRow w.heap.size 3 1 (.slice (some ⟨g2, 0, none⟩) (k + 1) cap) (k + 1) ((tab (k + 1) (fun z => (jat l z).work)).map (Value.int .i64))) := by
          show w8.ownsRow _ _ _ _ _ _
          rw [HT.out, ← HX.out, List.map_append]
          exact hown8
        have hg2 : w.heap.size < g2 ∧ g2 ≠ Dg := by
          have hz := hb.size
          have hz2 := hD.lt
          rcases hat with e | e
          · have : Lg = g2 := by injection e
            omega
          · (try rw [World.size_alloc] at e)
            omega
        clear hown8 hgr8 hat hf hri hm1 hD hO hb
        go_wp2_with fail
        go_roundw
        case rel => exact ⟨k + 1, g2, cap, by omega, by go_num, rfl, hown9.out, hg2.1, hg2.2, hD8, hO8, hb8⟩
        case measure => simp [intOf]; omega
      · obtain rfl : k = n := by omega
        have hbt : decide ((k : Int) < (k : Int)) = false := by simp
        have hW0 : RfW w k Lg Dg wr vo (start l).left (start l).fin (start l).out.reverse := ⟨hb, RowB.of_own hL, hD, hO, Nat.le_of_lt o1, Nat.le_of_lt o2, ne⟩
        clear hb hL hD hO
        go_wp2_with fail
        go_loopw [4, 8] (fun u4 u8 wr' => ∃ s : St, u8 = .int .i64 s.now ∧ RfW w k Lg Dg wr' u4 s.left s.fin s.out.reverse ∧ Reach l k (start l) s) (fun _ t _ => (1300000 - intOf t).toNat)
        case atStart => exact ⟨start l, rfl, hW0, .refl⟩
        case round =>
          clear hW0
          obtain ⟨s, rfl, hW, hRe⟩ := hrel
          have hSd := hS0.out.reach (fun i => (jat_calm HV.out i).2.2.2.2.2) hRe
          have hnb := hSd.bound HV.out hn
          have hn0 := hSd.now0
          have HSd := Lib.hid hSd
          have HRe := Lib.hid hRe
          clear hSd hRe
          go_wp2_with fail
          go_loopw [9, 10, 11] (fun u9 u10 u11 wi => ∃ (j : Nat) (x y : Int), j ≤ k ∧ u11 = .int .i64 j ∧ u9 = .int .i64 x ∧ u10 = .int .i64 y ∧ OnB l k s j x ∧ NxB l k s j y ∧ x < j ∧ RfW w k Lg Dg wi u4 s.left s.fin s.out.reverse) (fun _ _ i _ => k - (intOf i).toNat)
          case atStart => exact ⟨0, -1, -1, Nat.zero_le _, rfl, rfl, rfl, .inl ⟨rfl, fun j hj => by omega⟩, .inl ⟨rfl, fun j hj => by omega⟩, by omega, hW⟩
          case round =>
            clear hW
            obtain ⟨j, x, y, hj, rfl, rfl, rfl, hOn, hNx, hxj, hW⟩ := hrel
            by_cases hjk : j < k
            · have hbt : decide ((j : Int) < (k : Int)) = true := by simp; omega
              have hbt2 : (j : Int) < (k : Int) := by omega
              obtain ⟨g, B, mB, cB, e1, hgl, hj', c0, c1, c2, c3, c4, _⟩ := rA.both hW.below hjk
              subst e1
              have cL := hW.left.at_ hjk
              have lL := hW.left.lt
              have HW := Lib.hid hW
              have HOn := Lib.hid hOn
              have HNx := Lib.hid hNx
              have hcm := (jat_calm HV.out j).2.2
              clear hj' c0 c3 c4 hW hOn hNx
              by_cases h0 : s.left j = 0
              · have hb0 : (s.left j == 0) = true := by simpa using h0
                have h1 := Lib.hid (HOn.out.skip (fun h => h.2.2.1 h0))
                have h2 := Lib.hid (HNx.out.skip (fun h => h.2.2.1 h0))
                clear HOn HNx h0
                go_wp2_with fail
                go_roundw
                case rel => exact ⟨j + 1, x, y, by omega, by go_num, rfl, rfl, h1.out, h2.out, by omega, HW.out⟩
                case measure => simp [intOf]; omega
              · have hb0 : (s.left j == 0) = false := by simpa using h0
                by_cases hr : (jat l j).rel > s.now
                · have hb1 : decide ((jat l j).rel > s.now) = true := by simpa using hr
                  have hwt : Waits l k s j := ⟨by omega, by omega, h0, hr⟩
                  have h1 := Lib.hid (HOn.out.skip (fun h => by have := h.2.2.2; omega))
                  rcases HNx.out.cases with e | ⟨hy0, _⟩
                  · subst e
                    have hb2 : decide ((-1 : Int) < 0) = true := by decide
                    have h2 := Lib.hid (HNx.out.first hcm.2.2.1 hwt)
                    clear HNx HOn hwt h0
                    go_wp2_with fail
                    go_roundw
                    case rel => exact ⟨j + 1, x, (jat l j).rel, by omega, by go_num, rfl, rfl, h1.out, h2.out, by omega, HW.out⟩
                    case measure => simp [intOf]; omega
                  · have hb2 : decide (y < 0) = false := by simp; omega
                    by_cases hry : (jat l j).rel < y
                    · have hb3 : decide ((jat l j).rel < y) = true := by simpa using hry
                      have h2 := Lib.hid (HNx.out.take_ hy0 hcm.2.2.1 hwt hry)
                      clear HNx HOn hwt h0
                      go_wp2_with fail
                      go_roundw
                      case rel => exact ⟨j + 1, x, (jat l j).rel, by omega, by go_num, rfl, rfl, h1.out, h2.out, by omega, HW.out⟩
                      case measure => simp [intOf]; omega
                    · have hb3 : decide ((jat l j).rel < y) = false := by simpa using hry
                      have h2 := Lib.hid (HNx.out.keep hy0 hry)
                      clear HNx HOn hwt h0
                      go_wp2_with fail
                      go_roundw
                      case rel => exact ⟨j + 1, x, y, by omega, by go_num, rfl, rfl, h1.out, h2.out, by omega, HW.out⟩
                      case measure => simp [intOf]; omega
                · have hb1 : decide ((jat l j).rel > s.now) = false := by simpa using hr
                  have hrd : Ready l k s j := ⟨by omega, by omega, h0, by omega⟩
                  have h2 := Lib.hid (HNx.out.skip (fun h => by have := h.2.2.2; omega))
                  rcases HOn.out.cases with e | ⟨o, e, hok, _⟩
                  · subst e
                    have hb2 : decide ((-1 : Int) < 0) = true := by decide
                    have h1 := Lib.hid (HOn.out.first hjk hrd)
                    clear HNx HOn hrd h0
                    go_wp2_with fail
                    go_quiet (fail)
                    go_wp2_with fail
                    go_roundw
                    case rel => exact ⟨j + 1, j, y, by omega, by go_num, rfl, rfl, h1.out, h2.out, by omega, HW.out.later (below_drewN (Below.refl _ _) _)⟩
                    case measure => simp [intOf]; omega
                  · subst e
                    have hb2 : decide ((o : Int) < 0) = false := by simp
                    have hbo : (o : Int) < (k : Int) := by omega
                    obtain ⟨g', B', mB', cB', e1, _, _, d0, d1, d2, d3, d4, _⟩ := rA.both HW.out.below hok
                    cases e1
                    clear d0 d1 d3 d4
                    by_cases hdd : (jat l j).due < (jat l o).due
                    · have hb3 : decide ((jat l j).due < (jat l o).due) = true := by simpa using hdd
                      have h1 := Lib.hid (HOn.out.take_ hjk hrd hdd)
                      clear HNx HOn hrd h0
                      go_wp2_with fail
                      go_quiet (fail)
                      go_wp2_with fail
                      go_roundw
                      case rel => exact ⟨j + 1, j, y, by omega, by go_num, rfl, rfl, h1.out, h2.out, by omega, HW.out.later (below_drewN (Below.refl _ _) _)⟩
                      case measure => simp [intOf]; omega
                    · have hb3 : decide ((jat l j).due < (jat l o).due) = false := by simpa using hdd
                      have h1 := Lib.hid (HOn.out.keep (by omega) hdd)
                      clear HNx HOn hrd h0
                      go_wp2_with fail
                      go_quiet (fail)
                      go_wp2_with fail
                      go_roundw
                      case rel => exact ⟨j + 1, o, y, by omega, by go_num, rfl, rfl, h1.out, h2.out, by omega, HW.out.later (below_drewN (Below.refl _ _) _)⟩
                      case measure => simp [intOf]; omega
            · obtain rfl : j = k := by omega
              have hbt : decide ((j : Int) < (j : Int)) = false := by simp
              have HW := Lib.hid hW
              rcases hOn.cases with e | ⟨o, e, ho, hrd⟩
              · subst e
                have hb1 : decide ((-1 : Int) < 0) = true := by decide
                have hno := hOn.none_
                rcases hNx.cases with e | ⟨hy0, q, hq, hlt⟩
                · subst e
                  have HD : Hid (Done l j s) := ⟨hno, hNx.none_⟩
                  have HFb := Lib.hid (FinB.reach HV.out HRe.out)
                  clear hOn hNx hno hW
                  go_wp2_with fail
                  go_loopw [14, 15] (fun u14 u15 wi => ∃ (i : Nat) (m : Int), i ≤ j ∧ u15 = .int .i64 i ∧ u14 = .int .i64 m ∧ LateM l i s.fin m ∧ RfW w j Lg Dg wi u4 s.left s.fin s.out.reverse) (fun _ i _ => j - (intOf i).toNat)
                  case atStart => exact ⟨0, 0, Nat.zero_le _, rfl, rfl, .inl ⟨rfl, rfl⟩, HW.out⟩
                  case round =>
                    clear HW
                    obtain ⟨i, m, hi, rfl, rfl, hLm, hW⟩ := hrel
                    by_cases hij : i < j
                    · have hbt : decide ((i : Int) < (j : Int)) = true := by simp; omega
                      have hbt2 : (i : Int) < (j : Int) := by omega
                      obtain ⟨g, B, mB, cB, e1, hgl, hj', c0, c1, c2, c3, c4, _⟩ := rA.both hW.below hij
                      subst e1
                      have cD := hW.done.at_ hij
                      have lD := hW.done.lt
                      have HW := Lib.hid hW
                      have hfb := HFb.out i
                      have hfb0 := hfb.1
                      have hfb1 := hfb.2
                      have hcm := (jat_calm HV.out i).2.2
                      have hd0 := hcm.1
                      have hd1 := hcm.2.1
                      have HM := Lib.hid hLm.more
                      clear hfb hcm hLm hW c0 c1 c3 c4 hj'
                      generalize (jat l i).due = du at *
                      generalize s.fin i = fi at *
                      by_cases hi0 : i = 0
                      · have HM2 : Hid (LateM l (i + 1) s.fin (fi - du)) := by have h := HM.out; rw [if_pos (.inl hi0)] at h; exact h
                        clear HM
                        subst hi0
                        have hb0 : (((0 : Nat) : Int) == 0) = true := by decide
                        go_wp2_with fail
                        go_quiet (fail)
                        go_wp2_with fail
                        go_quiet (fail)
                        go_wp2_with fail
                        go_roundw
                        case rel => exact ⟨_, fi - du, hij, by first | rfl | go_num, rfl, HM2.out, HW.out.later (below_drewN (Below.refl _ _) _)⟩
                        case measure => simp [intOf]; omega
                      · have hb0 : ((i : Int) == 0) = false := by simp; omega
                        by_cases hgm : fi - du > m
                        · have hb2 : decide (fi - du > m) = true := decide_eq_true hgm
                          have HM2 : Hid (LateM l (i + 1) s.fin (fi - du)) := by have h := HM.out; rw [if_pos (.inr hgm)] at h; exact h
                          clear HM
                          go_wp2_with fail
                          go_quiet (fail)
                          go_wp2_with fail
                          go_quiet (fail)
                          go_wp2_with fail
                          go_roundw
                          case rel => exact ⟨_, fi - du, hij, by first | rfl | go_num, rfl, HM2.out, HW.out.later (below_drewN (Below.refl _ _) _)⟩
                          case measure => simp [intOf]; omega
                        · have hb2 : decide (fi - du > m) = false := decide_eq_false hgm
                          have HM2 : Hid (LateM l (i + 1) s.fin m) := by have h := HM.out; rw [if_neg (by omega)] at h; exact h
                          clear HM
                          go_wp2_with fail
                          go_quiet (fail)
                          go_wp2_with fail
                          go_roundw
                          case rel => exact ⟨i + 1, m, by omega, by go_num, rfl, HM2.out, HW.out.later (below_drewN (Below.refl _ _) _)⟩
                          case measure => simp [intOf]; omega
                    · obtain rfl : i = j := by omega
                      have hbt : decide ((i : Int) < (i : Int)) = false := by simp
                      have HF : Hid (RSwR w l i (.returned (.tuple #[u4, .int .i64 m])) wr) := ⟨u4, s, m, rfl, HRe.out, HD.out, hLm, hW.out, hW.below⟩
                      clear hLm hW
                      go_wp2_with fail
                      (try simp only [Exit.inBlock, Exit.then]); refine bodyPost_ret (results_tmp2 rfl _ _ _) rfl ?_
                      exact HF.out
                · have HSt : Hid (Step l j s { s with now := y }) := .idle hno (hNx.some_ hy0)
                  have hb2 : decide (y < 0) = false := by simp; omega
                  have hyb : y ≤ 640000 := by have := (jat_calm HV.out q).2.2.2.2.2; omega
                  clear hOn hNx hno hW hq
                  go_wp2_with fail
                  go_roundw
                  case rel => exact ⟨{ s with now := y }, rfl, HW.out, .next HRe.out HSt.out⟩
                  case measure => simp [intOf]; omega
              · subst e
                have hb1 : decide ((o : Int) < 0) = false := by simp
                have hoj : (o : Int) < (j : Int) := by omega
                have HOn := Lib.hid hOn.some_
                have HNx := Lib.hid hNx
                have hl0 := HSd.out.low o
                have hl1 := HSd.out.high o
                have hl2 := (jat_calm HV.out o).2.1
                have cL := hW.left.at_ ho
                have lL := hW.left.lt
                obtain ⟨lf, hlf⟩ : ∃ lf, s.left o = lf := ⟨_, rfl⟩
                have HLf := Lib.hid hlf
                rw [hlf] at cL hl0 hl1
                have hlf1 : lf ≤ 10000 := by omega
                clear hl1 hl2 hlf hOn hNx hW hrd
                go_upto_if 97 with fail
                go_cut [12] from 35 to 151 (fun u12 wx => ∃ t : Int, u12 = .int .i64 t ∧ Till l j s o t ∧ RfW w j Lg Dg wx u4 s.left s.fin s.out.reverse)
                case first =>
                  rcases HNx.out.cases with e | ⟨hy0, q, hq, hlt⟩
                  · subst e
                    have hb3 : decide ((-1 : Int) ≥ 0) = false := by decide
                    have HT : Hid (Till l j s o (s.now + s.left o)) := .inl ⟨HNx.out.none_, rfl⟩
                    rw [HLf.out] at HT
                    go_wp2_with fail
                    go_meet
                    case rel => exact ⟨_, rfl, HT.out, HW.out⟩
                  · have hb3 : decide (y ≥ 0) = true := by simp; omega
                    have HT : Hid (∀ t, t = min (s.now + lf) y → Till l j s o t) := fun t h => .inr ⟨y, HNx.out.some_ hy0, by rw [HLf.out]; exact h⟩
                    have hyb : y ≤ 640000 := by have := (jat_calm HV.out q).2.2.2.2.2; omega
                    clear hq
                    rcases Int.lt_trichotomy (s.now + lf) y with hc | hc | hc
                    all_goals
                      go_wp2_with fail
                      go_meet
                      case rel => exact ⟨_, rfl, HT.out _ (by omega), HW.out⟩
                case rest =>
                  obtain ⟨t, rfl, hT, hW⟩ := hcut
                  have hTp := Till.pos HSd.out HOn.out hT
                  rw [HLf.out] at hTp
                  have ht0 : s.now < t := hTp.1
                  have ht1 : t ≤ s.now + lf := hTp.2
                  have HT := Lib.hid hT
                  clear hT hTp cL lL HW
                  have cL := hW.left.at_ ho
                  rw [HLf.out] at cL
                  have fL := hW.left.frozen o
                  have lL := hW.left.lt
                  have hW2 := hW.leftTo o (lf - (t - s.now))
                  obtain ⟨os', hos⟩ : ∃ os', os' = (addSl s.out o s.now t).reverse := ⟨_, rfl⟩
                  obtain ⟨ff, hff⟩ : ∃ ff, ff = upd s.left (o : Int) (lf - (t - s.now)) := ⟨_, rfl⟩
                  rw [← hff] at hW2
                  have HOs := Lib.hid hos
                  have HFf := Lib.hid hff
                  have hle := ((Short.start l j).reach (fun i => (jat_calm HV.out i).2.2.2.2.2) hS0.out HRe.out).le
                  have HW2 := Lib.hid hW2
                  clear hff hW hW2
                  first | go_back | go_step
                  go_step
                  iterate 35 (first | go_values | go_skip | go_guarded | go_step)
                  go_cut [4] from 35 to 151 (fun u4 wx => RfW w j Lg Dg wx u4 ff s.fin os')
                  case first =>
                    revert HW2
                    generalize World.setCell wc ⟨Lg, o, none⟩ (.int .i64 (lf - (t - s.now))) = wd
                    intro HW2
                    obtain ⟨ol, hol⟩ : ∃ ol, ol = s.out := ⟨_, rfl⟩
                    have hW := HW2.out
                    rw [← hol] at hos hW hle
                    clear HW2 HOs HFf HOn HNx HT HRe HSd HLf cL fL lL hS0
                    have HcW := Lib.hid hW
                    clear hW hol
                    obtain ⟨ao, co, hsh⟩ := HcW.out.out.short
                    rw [List.length_reverse] at hsh
                    have hbb : ∀ ww : World, Below ww.heap.size ww (ww.alloc (.cells #[.int .i64 o, .int .i64 s.now, .int .i64 t] 52)) := fun ww => (Below.refl _ _).alloc (Nat.le_refl _) _
                    have hbs := Nat.le_trans HcW.out.below.size (hbb _).size
                    have hnn := fun ww => Lib.hid (new_sl ww ⟨o, s.now, t⟩)
                    rcases ol with _ | ⟨z, ol⟩
                    · have hos2 : os' = ([] : List Sl).reverse ++ [⟨o, s.now, t⟩] := hos
                      have hn0 : decide (((0 : Nat) : Int) > 0) = false := by decide
                      have hsh2 : u4 = .slice ao 0 co := hsh
                      subst hsh2
                      clear hsh hos hle
                      have hown := (HcW.out.later (hbb _)).out
                      go_wp2_with (at_builtin; refine app_sl _ rfl (.tmp 140) (.tmp 145) rfl w.heap.size _ _ rfl hown _ 1 ⟨o, s.now, t⟩ rfl (hnn _).out (by rw [List.length_reverse]; exact Nat.zero_le _) hbs ?_)
                      intro g cap w' ho hgr _
                      have hW2 := HcW.out.appTo ho hgr
                      clear hnn hown hbs hbb
                      go_wp2_with fail
                      go_meet
                      case rel => rw [hos2]; exact hW2
                    · have HO1 : Hid (os' = if z.job = o ∧ z.till = s.now then ol.reverse ++ [⟨z.job, z.fr, t⟩] else (ol.reverse ++ [z]) ++ [⟨o, s.now, t⟩]) := by
                        show _ = _
                        rw [hos]
                        unfold addSl
                        simp only
                        split
                        · rw [List.reverse_cons]
                        · rw [List.reverse_cons, List.reverse_cons]
                      clear hos hsh
                      have hW1 := HcW.out
                      rw [List.reverse_cons] at hW1
                      obtain ⟨g, c2, e2, hc2, hMg, hgl, hgf⟩ := hW1.out.form (by simp)
                      rw [show (ol.reverse ++ [z]).length = ol.reverse.length + 1 by simp] at e2 hc2
                      subst e2
                      obtain ⟨y0, y1, y2⟩ := hW1.out.last
                      have hJ := Lib.hid (hW1.lastTo t)
                      have HN : Hid ((ol.reverse ++ [z]).length ≤ 1000) := by
                        simp only [List.length_cons] at hle
                        show _ ≤ _
                        simp only [List.length_append, List.length_reverse, List.length_cons, List.length_nil]
                        omega
                      have hq2 : ol.reverse.length + 1 ≤ 200 := by
                        simp only [List.length_cons] at hle
                        rw [List.length_reverse]
                        omega
                      obtain ⟨e, he⟩ : ∃ e, e = ol.reverse.length := ⟨_, rfl⟩
                      rw [← he] at y0 y1 y2 hJ hc2 hq2 hW1 ⊢
                      have HW1 := Lib.hid hW1
                      clear hW1 he hle HcW
                      have hq1 : decide (((e + 1 : Nat) : Int) > 0) = true := decide_eq_true (by omega)
                      have en : ((e + 1 : Nat) : Int) - 1 = (e : Int) := by omega
                      have en2 : ((e : Int) + 1) - 1 = (e : Int) := by omega
                      have en3 : (e : Int) < ((e + 1 : Nat) : Int) := by omega
                      have f2 := hgf (e * 3 + 2)
                      clear hgf
                      by_cases a1 : z.job = (o : Int) ∧ z.till = s.now
                      · have HO2 : Hid (os' = ol.reverse ++ [⟨z.job, z.fr, t⟩]) := by show _ = _; rw [HO1.out, if_pos a1]
                        have hb1 : (z.job == (o : Int)) = true := by simpa using a1.1
                        have hb2 : (z.till == s.now) = true := by simpa using a1.2
                        clear HO1
                        go_wp2_with fail
                        go_meet
                        case rel => rw [HO2.out]; exact hJ.out
                      · have HO2 : Hid (os' = (ol.reverse ++ [z]) ++ [⟨o, s.now, t⟩]) := by show _ = _; rw [HO1.out, if_neg a1]
                        clear HO1 hJ
                        have hown := (HW1.out.later (hbb _)).out
                        by_cases a2 : z.job = (o : Int)
                        · have hb1 : (z.job == (o : Int)) = true := by simpa using a2
                          have hb2 : (z.till == s.now) = false := by simpa using fun h => a1 ⟨a2, h⟩
                          clear a1
                          go_wp2_with (at_builtin; refine app_sl _ rfl (.tmp 140) (.tmp 145) rfl w.heap.size _ (ol.reverse ++ [z]) rfl hown _ 1 ⟨o, s.now, t⟩ rfl (hnn _).out HN.out hbs ?_)
                          intro g cap w' ho hgr _
                          have hW2 := HW1.out.appTo ho hgr
                          clear hnn hown hbs hbb
                          go_wp2_with fail
                          go_meet
                          case rel => rw [HO2.out, List.append_assoc]; exact hW2
                        · have hb1 : (z.job == (o : Int)) = false := by simpa using a2
                          clear a1
                          go_wp2_with (at_builtin; refine app_sl _ rfl (.tmp 140) (.tmp 145) rfl w.heap.size _ (ol.reverse ++ [z]) rfl hown _ 1 ⟨o, s.now, t⟩ rfl (hnn _).out HN.out hbs ?_)
                          intro g cap w' ho hgr _
                          have hW2 := HW1.out.appTo ho hgr
                          clear hnn hown hbs hbb
                          go_wp2_with fail
                          go_meet
                          case rel => rw [HO2.out, List.append_assoc]; exact hW2
                  case rest =>
                    have hW := hcut
                    clear hcut HW2 cL fL lL
                    have cD := hW.done.at_ ho
                    have fD := hW.done.frozen o
                    have lD := hW.done.lt
                    have hW3 := hW.doneTo o t
                    rw [HFf.out, show upd s.left (o : Int) (lf - (t - s.now)) = upd s.left (o : Int) (s.left o - (t - s.now)) by rw [HLf.out], HOs.out] at hW3
                    have HW3 := Lib.hid hW3
                    clear hW hW3
                    go_wp2_with fail
                    go_roundw
                    case rel => exact ⟨run s o t, rfl, HW3.out, .next HRe.out (.run HOn.out HT.out)⟩
                    case measure => simp [intOf]; omega
end Go.Proofs.Ytnfcigbiebbjdaa
