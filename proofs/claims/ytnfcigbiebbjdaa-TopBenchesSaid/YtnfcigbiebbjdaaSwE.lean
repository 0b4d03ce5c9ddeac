/-
  The sweep as the program does it: the walk.
  Conditions: the jobs are valid; the slices start at the heads of blocks.
-/
import Derived.Test.YtnfcigbiebbjdaaRSwI
import Derived.WalkMore
import Derived.BigQuiet
import Derived.Deep.CutBlock
import Derived.Deep.CutRange
namespace Go.Proofs.Ytnfcigbiebbjdaa
open Go.RowKit

/-- The slice of those that are still to come. -/
def ComeV (R n p : Nat) (v : Value) : Prop := ∃ a : Addr, v = .slice (some a) (n - p) (n - p) ∧ (p < n → a = ⟨R, p, none⟩)
theorem OutO.down {w : World} {M M' : Nat} {v : Value} {os : List Sl} (h : OutO w M v os) (hM : M' ≤ M) : OutO w M' v os := by
  obtain ⟨h1, h2⟩ := h
  refine ⟨h1, ?_⟩
  rcases h2 with h2 | ⟨g, cap, cur, h2, h3, h4⟩
  · exact .inl h2
  · exact .inr ⟨g, cap, cur, h2, Nat.le_trans hM h3, h4⟩
/-- What the sweep returns. -/
def SweepR (w : World) (l : List Jb) (n : Nat) (e : Ending) (w' : World) : Prop :=
  ∃ (v : Value) (s : St) (m : Int), e = .returned (.tuple #[v, .int .i64 m, .int .i64 0]) ∧ Reach l n (start l) s ∧ Done l n s ∧ LateM l n s.fin m ∧ OutO w' w.heap.size v s.out.reverse ∧ Below w.heap.size w w'

section
variable {A : Option Addr} {n c : Nat} {l : List Jb} {w : World} {bx b Rc Lb : Nat} {d : List Int} {W0 wr : World} {v : Value} {L : List Int} {vo vo' : Value} {f : Int → Int} {os os' : List Sl}
theorem SwW.appTo (X : SwX A n c l w bx b Rc Lb d W0) (h : SwW n bx b Lb W0 wr v L vo f os) {b0 : Obj} {w' : World} (ho : OutO w' W0.heap.size vo' os') (hg : (wr.alloc b0).grownBy w' vo.ownBlock) : SwW n bx b Lb W0 w' v L vo' f os' :=
  h.outTo X ((Fix.of_below ((Below.refl _ _).alloc (Nat.le_refl _) b0) (fun k hk => hk.1)).grown hg (fun k hk => hk.1) (by simp) (fun k hk hS => hS.2 hk)) ho
theorem SwW.lastTo {g q : Nat} {s : Sl} (X : SwX A n c l w bx b Rc Lb d W0) (h : SwW n bx b Lb W0 wr v L (.slice (some ⟨g, 0, none⟩) (os.length + 1) q) f (os ++ [s])) (x : Int) :
    SwW n bx b Lb W0 (wr.setCell ⟨g, os.length * 3 + 2, none⟩ (.int .i64 x)) v L (.slice (some ⟨g, 0, none⟩) (os.length + 1) q) f (os ++ [⟨s.job, s.fr, x⟩]) :=
  h.outTo X ((Fix.refl _ _).setCell (fun e => e.2 rfl) _) (h.out.setLast x)
end

theorem calm_ne {w : World} {A : Option Addr} {n : Nat} {l : List Jb} (rA : JobsH w A n l) (hv : validB l = true) {j : Nat} (hj : j < n) : (start l).left j ≠ 0 := by
  have hlt : j < l.length := by rw [rA.1]; exact hj
  have hok : l[j]? = some (l.getD j Jb.none) := by rw [List.getD_eq_getElem?_getD, List.getElem?_eq_getElem hlt]; rfl
  have h1 := (validB_calm hv hok).1
  rw [← jat_get hok] at h1
  intro h2
  have h3 : (jat l (j : Int)).work = 0 := h2
  omega
set_option maxRecDepth 100000 in
set_option maxHeartbeats 4000000 in
theorem Sweep_yes (A : Option Addr) (n c : Nat) (l : List Jb) (w : World) (rA : JobsH w A n l) (hv : validB l = true) : Calls Try.prog 34 #[.slice A n c] w (SweepR w l n) := by
  have hn : n ≤ 64 := by
    have h := hv
    unfold validB at h
    simp only [Bool.and_eq_true, decide_eq_true_eq] at h
    rw [← rA.1]; exact h.1
  have HC : Hid (∀ (k : Nat) (x : Jb), l[k]? = some x → Calm x) := fun k x h => validB_calm hv h
  have HF := Lib.hid (validB_fair hv)
  have HV := Lib.hid hv
  have hmk := make_ints n (by omega)
  have hw1 : Below w.heap.size w (w.alloc (.cells #[.slice A n c] 22)) := (Below.refl _ _).alloc (Nat.le_refl _) _
  have k1 := Blk.new w 22 #[.slice A n c]
  have M1 := Lib.hid (Check_yes A n c l _ (rA.later hw1) hv)
  have x0 := k1.cell
  have y0 := k1.lt
  obtain ⟨bx, hbx⟩ : ∃ bx, bx = w.heap.size := ⟨_, rfl⟩
  rw [← hbx] at k1 x0 y0
  have HBx := Lib.hid hbx
  clear hv hbx
  go_enter Try.func34, Try.ntmps34
  go_wp2_with fail
  rw [← HBx.out]
  go_step3
  go_wp2_with fail
  refine M1.out.mono ?_
  rintro e w1 ⟨rfl, hb1⟩
  have k2 := k1.later hb1
  have hw2 := hw1.trans (hb1.mono hw1.size)
  have x1 := k2.cell
  have y1 := k2.lt
  clear x0 y0 M1 k1 hw1 hb1
  go_wp2_with fail
  refine (numbers_any n w1 (by omega)).mono ?_
  rintro e w2 ⟨rfl, hB, hb2⟩
  have k3 := k2.later hb2
  have hw3 := hw2.trans (hb2.mono hw2.size)
  obtain ⟨Rc, hRc⟩ : ∃ Rc, Rc = w1.heap.size := ⟨_, rfl⟩
  rw [← hRc] at hB ⊢
  have hRcw : w.heap.size ≤ Rc := by rw [hRc]; exact hw2.size
  have hRcx : bx < Rc := by rw [hRc]; exact k2.lt
  have C := rel_cmp (R := Rc) (w0 := w2) k2 (rA.later hw2) hb2 (by omega)
  have M2 := Lib.hid (sort_any C (rel_swo l).tot (nums n) n w2 (fun x hx => mem_nums.1 hx) (nums_agrees _ n) hB (World.grownBy.refl _ _) n (nums_length n).symm (by omega))
  have HRc := Lib.hid hRc
  have x2 := k3.cell
  have y2 := k3.lt
  clear C hB x1 y1 hRc hb2 k2 hw2
  go_wp2_with fail
  refine M2.out.mono ?_
  rintro e w3 ⟨rfl, d, hP, hSd, hB3, hg3⟩
  have HP := Lib.hid hP
  have HSd : Hid (d.Pairwise fun x y => (jat l x).rel ≤ (jat l y).rel) := hSd.imp rel_le
  have HDl : Hid (d.length = n) := by show _ = _; rw [hP.length_eq, nums_length]
  have k4 := k3.grown hg3 (by simp; omega)
  have hw4 := hw3.trans (below_of_only hg3 hRcw hw3.size)
  have hrow4 := RowH.of_row (n := n) hB3 HDl.out
  have x3 := k4.cell
  have y3 := k4.lt
  obtain ⟨b, hbb⟩ : ∃ b, b = w3.heap.size := ⟨_, rfl⟩
  have hRcb : Rc < b := by rw [hbb]; exact hB3.lt
  have HBb := Lib.hid hbb
  have h5 := Blk.new w3 80 #[.slice none 0 0, .func (.func 65) #[] #[.pointer (some ⟨bx, 0, none⟩)]]
  have hb5 := (Below.refl w3.heap.size w3).alloc (Nat.le_refl _) (.cells #[.slice none 0 0, .func (.func 65) #[] #[.pointer (some ⟨bx, 0, none⟩)]] 80)
  have k5 := k4.later hb5
  have hw5 := hw4.trans (hb5.mono hw4.size)
  have hrow5 := hrow4.later hb5
  rw [← hbb] at h5
  have hs5 : Hid ((w3.alloc (.cells #[.slice none 0 0, .func (.func 65) #[] #[.pointer (some ⟨bx, 0, none⟩)]] 80)).heap.size = b + 1) := by show _ = _; rw [World.size_alloc, hbb]
  have x5 := k5.cell
  have y5 := k5.lt
  clear M2 hP hSd hg3 k3 hw3 x2 y2 hB3 k4 hw4 hrow4 hbb hb5
  go_upto_region 7 with (fail)
  rw [← HBb.out]
  clear x3 y3
  revert h5 k5 hw5 hrow5 hs5 x5 y5
  generalize w3.alloc (.cells #[.slice none 0 0, .func (.func 65) #[] #[.pointer (some ⟨bx, 0, none⟩)]] 80) = w5
  intro h5 k5 hw5 hrow5 hs5 x5 y5
  obtain ⟨Lb, hLb⟩ : ∃ Lb, Lb = w5.heap.size := ⟨_, rfl⟩
  have hLw : w.heap.size ≤ Lb := by rw [hLb]; exact hw5.size
  have hbL : b < Lb := by rw [hLb]; exact h5.lt
  have HLb := Lib.hid hLb
  have hb6 := (Below.refl w5.heap.size w5).alloc (Nat.le_refl _) (.cells (rowc (List.replicate n 0)) 3)
  have hL6 := RowT.new w5 n
  have k6 := k5.later hb6
  have h6 := h5.later hb6
  have hw6 := hw5.trans (hb6.mono hw5.size)
  have hrow6 := hrow5.later hb6
  rw [← hLb] at hL6
  have hL60 : Hid (RowT (w5.alloc (.cells (rowc (List.replicate n 0)) 3)) Lb n (fun z => if z < ((0 : Nat) : Int) then (jat l z).work else 0)) := hL6.congr fun z z0 _ => by rw [if_neg (by omega)]
  clear hLb h5 k5 hw5 hrow5 hs5 hb6 hL6
  go_wp2_with fail
  rw [← HLb.out]
  revert k6 h6 hw6 hrow6 hL60
  generalize w5.alloc (.cells (rowc (List.replicate n 0)) 3) = w6
  intro k6 h6 hw6 hrow6 hL60
  clear x5 y5
  have HK6 := Lib.hid k6
  have HW6 := Lib.hid hw6
  have x6 := k6.cell
  have y6 := k6.lt
  have hLs : Hid (Lb < w6.heap.size) := hL60.out.lt
  go_loopw [37] (fun i wr => ∃ k : Nat, k ≤ n ∧ i = .int .i64 k ∧ RowT wr Lb n (fun z => if z < (k : Int) then (jat l z).work else 0) ∧ w6.grownBy wr (some Lb)) (fun i _ => n - (intOf i).toNat)
  case atStart => exact ⟨0, Nat.zero_le _, rfl, hL60.out, World.grownBy.refl _ _⟩
  case round =>
    clear hL60 x6 y6 k6 hw6
    obtain ⟨k, hk, rfl, hL, hg⟩ := hrel
    have k7 := HK6.out.grown hg (by simp; omega)
    have hw7 := HW6.out.trans (below_of_only hg hLw HW6.out.size)
    by_cases hlt : k < n
    · have hbt : decide ((k : Int) < (n : Int)) = true := by simp; omega
      have hbt2 : (k : Int) < (n : Int) := by omega
      obtain ⟨g, B, mB, cB, e1, hgl, hj, c0, c1, c2, c3, c4, _⟩ := rA.both hw7 hlt
      subst e1
      have cL := hL.at_ hlt
      have fL := hL.frozen k
      have lL := hL.lt
      have hset := (hL.set_ k (jat l k).work).congr (g := fun z => if z < ((k + 1 : Nat) : Int) then (jat l z).work else 0) (fun z z0 z1 => by
        by_cases e : z = (k : Int)
        · subst e; simp; omega
        · by_cases e2 : z < (k : Int)
          · rw [if_neg e, if_pos e2, if_pos (by omega)]
          · rw [if_neg e, if_neg e2, if_neg (by omega)])
      have hba := (Below.refl (wr.setCell ⟨Lb, k, none⟩ (.int .i64 (jat l k).work)).heap.size (wr.setCell ⟨Lb, k, none⟩ (.int .i64 (jat l k).work))).alloc (Nat.le_refl _) (.cells #[.int .i64 (jat l k).work, .int .i64 (jat l k).rel, .int .i64 (jat l k).due, .int .i64 (jat l k).wt, .slice B mB cB] 43)
      have HSet := Lib.hid (hset.later hba)
      have hgn := Lib.hid (only_alloc (only_setCell hg (p := ⟨Lb, k, none⟩) (.inl rfl) (.int .i64 (jat l k).work)) (.cells #[.int .i64 (jat l k).work, .int .i64 (jat l k).rel, .int .i64 (jat l k).due, .int .i64 (jat l k).wt, .slice B mB cB] 43))
      clear hset hL hg hba hj
      generalize (if (k : Int) < (k : Int) then (jat l (k : Int)).work else 0) = v0 at *
      generalize jat l (k : Int) = j at *
      go_wp2_with fail
      go_roundw
      case rel => exact ⟨k + 1, by omega, by go_num, HSet.out, hgn.out⟩
      case measure => simp [intOf]; omega
    · obtain rfl : k = n := by omega
      have hbt : decide ((k : Int) < (k : Int)) = false := by simp
      have h7 := h6.grown hg (by simp; omega)
      have hrow7 : RowH wr (some ⟨Rc, 0, none⟩) k d := hrow6.grown hg (fun g e => by cases e; omega)
      have hL7 := hL.congr (g := (start l).left) (fun z z0 z1 => by rw [if_pos z1]; rfl)
      have x7 := k7.cell
      have y7 := k7.lt
      go_wp2_with fail
      go_step3
      go_wp2_with fail
      clear x7 y7
      have X : SwX A k c l w bx b Rc Lb d wr := ⟨hn, HV.out, rA, hw7, k7, hrow7, HP.out, HSd.out, by rw [HBx.out]; exact Nat.le_refl _, hRcx, hRcb, hbL, hL7.lt⟩
      have h0 : SwW k bx b Lb wr wr (.slice none 0 0) [] (.slice none 0 0) (start l).left [] := ⟨Fix.refl _ _, ⟨h7, World.ownsRow_nil _ _ _ _, Nat.lt_trans hbL hL7.lt⟩, hL7, World.ownsRow_nil _ _ _ _⟩
      clear h7 hrow7 hL7 hbt hg hlt hRcx hRcb hbL hLw hRcw HP HSd HDl HK6 HW6 hLs HF HV
      generalize wr = W0 at *
      have HX := Lib.hid X
      clear hmk hw7 hL k7 h6 hrow6 HBx HRc HBb HLb HC
      have hSp : Split l k (start l) d 0 [] := ⟨List.nodup_nil, fun i => by simp, fun i hi => by simp at hi, fun i hi => by
        have h1 := mem_nums.1 (X.perm.mem_iff.1 (List.mem_of_mem_drop hi))
        obtain ⟨j, rfl⟩ := Int.eq_ofNat_of_zero_le h1.1
        exact calm_ne X.jobs X.valid (by omega)⟩
      have hD0 : DoneM l k (start l) 0 0 := DoneM.start fun i i0 i1 => by
        obtain ⟨j, rfl⟩ := Int.eq_ofNat_of_zero_le i0
        exact calm_ne X.jobs X.valid (by omega)
      have hS0 := Sound.start (n := k) (validB_fair X.valid)
      go_loopw [6, 11, 12, 13, 14] (fun u6 u11 u12 u13 u14 wr' => ∃ (p : Nat) (s : St) (v : Value) (L : List Int) (q m : Int), p ≤ k ∧ ComeV Rc k p u6 ∧ u12 = .int .i64 s.now ∧ u13 = .int .i64 m ∧ u14 = .int .i64 q ∧ SwW k bx b Lb W0 wr' v L u11 s.left s.out.reverse ∧ HeapP (urgLt l) L L.length ∧ Split l k s d p L ∧ Reach l k (start l) s ∧ DoneM l k s q m ∧ 0 ≤ q ∧ q ≤ s.now) (fun _ _ t _ _ _ => (1300000 - intOf t).toNat)
      case atStart => exact ⟨0, start l, _, [], 0, 0, Nat.zero_le _, ⟨_, rfl, fun _ => rfl⟩, rfl, rfl, rfl, h0, HeapP.nil _, hSp, .refl, hD0, Int.le_refl _, Int.le_refl _⟩
      case round =>
        clear h0 hSp hD0
        obtain ⟨p, s, v, L, q, m, hp, hcv, rfl, rfl, rfl, hW, hH, hSp, hRe, hDm, q0, q1⟩ := hrel
        go_upto_block 4 with fail
        go_cut [6] from 48 to 180 (fun u6 wx => ∃ (p : Nat) (v : Value) (L : List Int), p ≤ k ∧ ComeV Rc k p u6 ∧ SwW k bx b Lb W0 wx v L u11 s.left s.out.reverse ∧ HeapP (urgLt l) L L.length ∧ Split l k s d p L ∧ Rest l s d p)
        case first =>
          go_wp2_with fail
          go_loopw [6] (fun u6 wr => ∃ (p : Nat) (v : Value) (L : List Int), p ≤ k ∧ ComeV Rc k p u6 ∧ SwW k bx b Lb W0 wr v L u11 s.left s.out.reverse ∧ HeapP (urgLt l) L L.length ∧ Split l k s d p L) (fun u6 _ => match u6 with | .slice _ a _ => a | _ => 0)
          case atStart => exact ⟨p, v, L, hp, hcv, hW, hH, hSp⟩
          case round =>
            clear hcv hW hH hSp hp p v L
            obtain ⟨p, v, L, hp, ⟨ac, rfl, hac⟩, hW, hH, hSp⟩ := hrel
            have HDl := Lib.hid HX.out.len
            by_cases hlt : p < k
            · obtain rfl := hac hlt
              obtain ⟨r, hrr⟩ : ∃ r, k - p = r := ⟨_, rfl⟩
              have HRr := Lib.hid hrr
              have hr0 : 0 < r := by omega
              rw [hrr]
              have hk1 : decide ((r : Int) > 0) = true := by simp; omega
              have hk2 : (0 : Int) < (r : Int) := by omega
              clear hac hrr
              obtain ⟨g, e1, hg, hc⟩ := (hW.come HX.out).at_ hlt
              cases e1
              have hx := mem_nums.1 (HX.out.perm.mem_iff.1 (List.mem_of_getElem? (getD_get (o := d) (k := p) (by rw [HDl.out]; exact hlt))))
              have HA : Hid (at_ d p = d.getD p 0) := rfl
              generalize d.getD p 0 = x at *
              obtain ⟨x0, x1⟩ := hx
              obtain ⟨i, rfl⟩ := Int.eq_ofNat_of_zero_le x0
              have hi : i < k := by omega
              obtain ⟨gA, B, mB, cB, e1, hgl, hj, c0, c1, c2, c3, c4, _⟩ := rA.both (hW.below HX.out) hi
              subst e1
              have hbx := (hW.box HX.out).cell
              have lbx := (hW.box HX.out).lt
              have hLD : Hid (∀ z ∈ L, 0 ≤ z ∧ z < (k : Int)) := fun z hz => mem_nums.1 (HX.out.perm.mem_iff.1 (List.mem_of_mem_take ((hSp.mem z).1 hz).1))
              have hLn : Hid (L.length ≤ 900) := by
                have h1 := short_of_nodup k L hSp.nodup hLD.out
                have := HX.out.n64
                show _ ≤ _
                omega
              by_cases hr : (jat l i).rel ≤ s.now
              · have PM := Lib.hid (fun nq => (hW.later (below_drewN (Below.refl wr.heap.size wr) nq)).push HX.out hLD.out hLn.out hH (i : Int) ⟨by omega, by omega⟩)
                have HSp := Lib.hid hSp
                have HSn : Hid (∀ L' : List Int, L'.Perm ((i : Int) :: L) → Split l k s d (p + 1) L') := fun L' hp' => hSp.push HX.out.nodup (by rw [HDl.out]; exact hlt) (by rw [HA.out]; exact hr) (by rw [HA.out]; exact hp')
                clear hSp hH hLD hLn hj hW
                generalize jat l (i : Int) = j at *
                have hk3 : decide (j.rel ≤ s.now) = true := by simpa using hr
                go_wp2_with fail
                go_quiet (fail)
                go_wp2_with fail
                refine (PM.out _).mono ?_
                rintro e w4 ⟨rfl, v4, L4, hP4, hH4, hW4⟩
                have hSp4 := HSn.out L4 hP4
                clear PM HSp HSn hP4 c0 c1 c2 c3 c4 hc hbx lbx
                by_cases hr1 : r = 1
                · subst hr1
                  go_wp2_with fail
                  go_roundw
                  case rel => exact ⟨p + 1, v4, L4, by omega, ⟨_, by rw [show k - (p + 1) = 0 by have := HRr.out; omega], fun h => by have := HRr.out; omega⟩, hW4, hH4, hSp4⟩
                  case measure => simp
                · go_wp2_with fail
                  go_roundw
                  case rel => exact ⟨p + 1, v4, L4, by omega, ⟨_, by rw [show k - (p + 1) = r - 1 by have := HRr.out; omega], fun _ => rfl⟩, hW4, hH4, hSp4⟩
                  case measure => simp; omega
              · have HRe : Hid (Rest l s d p) := .inr ⟨by rw [HDl.out]; exact hlt, by rw [HA.out]; omega⟩
                have HcW := Lib.hid hW
                have HcS := Lib.hid hSp
                have HcH := Lib.hid hH
                clear hSp hH hLD hLn hj hW
                generalize jat l (i : Int) = j at *
                have hk3 : decide (j.rel ≤ s.now) = false := by simpa using hr
                go_wp2_with fail
                go_quiet (fail)
                go_wp2_with fail
                go_meet
                case rel => exact ⟨p, v, L, hp, ⟨_, by rw [HRr.out], fun _ => rfl⟩, HcW.out.later (below_drewN (Below.refl _ _) _), HcH.out, HcS.out, HRe.out⟩
            · obtain rfl : k = p := by omega
              have HRe : Hid (Rest l s d k) := .inl HDl.out.symm
              have HcW := Lib.hid hW
              have HcS := Lib.hid hSp
              have HcH := Lib.hid hH
              have HK0 : Hid (k - k = 0) := Nat.sub_self k
              rw [Nat.sub_self]
              have hk1 : decide (((0 : Nat) : Int) > 0) = false := by decide
              clear hSp hH hW hac
              go_wp2_with fail
              go_quiet (fail)
              go_wp2_with fail
              go_meet
              case rel => exact ⟨k, v, L, hp, ⟨_, by rw [HK0.out], fun h => by omega⟩, HcW.out.later (below_drewN (Below.refl _ _) _), HcH.out, HcS.out, HRe.out⟩
        case rest =>
          obtain ⟨p, v, L, hp, ⟨ac, rfl, hac⟩, hW, hH, hSp, hR⟩ := hcut
          have LM := Lib.hid (len_h hW.heapS)
          by_cases hL0 : L.length = 0
          · rw [hL0] at LM
            obtain rfl : L = [] := List.length_eq_zero_iff.1 hL0
            have HDl := Lib.hid HX.out.len
            by_cases hlt : p < k
            · obtain rfl := hac hlt
              obtain ⟨r, hrr⟩ : ∃ r, k - p = r := ⟨_, rfl⟩
              have HRr := Lib.hid hrr
              have hr0 : 0 < r := by omega
              rw [hrr]
              have hk1 : ((r : Int) == 0) = false := by simp; omega
              have hk2 : (0 : Int) < (r : Int) := by omega
              clear hac hrr hL0
              obtain ⟨g, e1, hg, hc⟩ := (hW.come HX.out).at_ hlt
              cases e1
              have hx := mem_nums.1 (HX.out.perm.mem_iff.1 (List.mem_of_getElem? (getD_get (o := d) (k := p) (by rw [HDl.out]; exact hlt))))
              have HA : Hid (at_ d p = d.getD p 0) := rfl
              generalize d.getD p 0 = x at *
              obtain ⟨x0, x1⟩ := hx
              obtain ⟨i, rfl⟩ := Int.eq_ofNat_of_zero_le x0
              have hi : i < k := by omega
              obtain ⟨gA, B, mB, cB, e1, hgl, hj, c0, c1, c2, c3, c4, _⟩ := rA.both (hW.below HX.out) hi
              subst e1
              have hbx := (hW.box HX.out).cell
              have lbx := (hW.box HX.out).lt
              have hgt : s.now < (jat l i).rel := by
                rcases hR with e | ⟨_, e⟩
                · have := HDl.out; omega
                · rw [HA.out] at e; exact e
              have HSt : Hid (Step l k s { s with now := (jat l i).rel }) := .idle (hSp.noOn HX.out.perm HX.out.sorted hR) (by rw [← HA.out]; exact hSp.next HX.out.perm HX.out.sorted (by rw [HDl.out]; exact hlt) (by rw [HA.out]; exact hgt))
              have hbn := (jat_calm HX.out.valid i).2.2.2.2
              have HcW := Lib.hid hW
              have HcS := Lib.hid (hSp.idle (t := (jat l i).rel) (by omega))
              have HcH := Lib.hid hH
              have HRe := Lib.hid hRe
              have HDm := Lib.hid hDm
              clear hSp hH hW hR hj hDm hRe
              have hrn := hbn.2
              have hr0 := hbn.1
              clear hbn
              obtain ⟨jr, hjr⟩ : ∃ jr, jr = jat l i := ⟨_, rfl⟩
              rw [← hjr] at HSt HcS hgt hrn hr0 c0 c1 c2 c3
              clear hjr
              go_wp2_with fail
              refine LM.out.mono ?_
              rintro e w4 ⟨rfl, rfl⟩
              go_wp2_with fail
              go_quiet (fail)
              go_wp2_with fail
              go_roundw
              case rel => exact ⟨p, { s with now := jr.rel }, v, [], q, m, hp, ⟨_, by rw [HRr.out], fun _ => rfl⟩, rfl, rfl, rfl, HcW.out.later (below_drewN (Below.refl _ _) _), HcH.out, HcS.out, .next HRe.out HSt.out, HDm.out, q0, by show q ≤ jr.rel; omega⟩
              case measure => simp [intOf]; omega
            · obtain rfl : k = p := by omega
              have HK0 : Hid (k - k = 0) := Nat.sub_self k
              rw [Nat.sub_self]
              clear hac hL0
              have HcD : Hid (Done l k s) := by have h1 := hSp; rw [show Split l k s d k [] = Split l k s d d.length [] by rw [HDl.out]] at h1; exact h1.done HX.out.perm HX.out.sorted
              have HcW := Lib.hid hW
              have HRe := Lib.hid hRe
              have HDm := Lib.hid hDm
              clear hSp hH hW hR hDm hRe
              go_wp2_with fail
              refine LM.out.mono ?_
              rintro e w4 ⟨rfl, rfl⟩
              go_wp2_with fail
              rw [Exit.noGoto_ret]
              (try simp only [Exit.inBlock, Exit.then]); refine bodyPost_ret (results_tmp3 rfl _ _ _) rfl ?_
              exact ⟨u11, s, m, rfl, HRe.out, HcD.out, HDm.out.late HcD.out, HcW.out.out.down HX.out.below.size, HcW.out.below HX.out⟩
          · have h0 : 0 < L.length := by omega
            have HDl := Lib.hid HX.out.len
            have hOn := hSp.on HX.out.perm HX.out.sorted hR hH h0
            have hSd := hS0.reach (fun i => (jat_calm HX.out.valid i).2.2.2.2.2) hRe
            have hSh := ((Short.start l k).reach (fun i => (jat_calm HX.out.valid i).2.2.2.2.2) hS0 hRe).le
            have hnb := hSd.bound HX.out.valid HX.out.n64
            have hn0 := hSd.now0
            have FM := Lib.hid (first_h hW.heapS h0)
            obtain ⟨i, hi⟩ : ∃ i : Nat, at_ L 0 = (i : Int) := Int.eq_ofNat_of_zero_le hOn.1.1
            rw [hi] at hOn FM
            have HI := Lib.hid hi
            have hik : i < k := by have := hOn.1.2.1; omega
            have hik2 : (i : Int) < (k : Int) := by omega
            have cL := hW.left.at_ hik
            have lL := hW.left.lt
            have hl0 := hSd.low i
            have hl1 := hSd.high i
            have hl2 := (jat_calm HX.out.valid i).2.1
            obtain ⟨lf, hlf⟩ : ∃ lf, s.left i = lf := ⟨_, rfl⟩
            have HLf := Lib.hid hlf
            rw [hlf] at cL hl0 hl1
            have hlf1 : lf ≤ 10000 := by omega
            obtain ⟨z, hz⟩ : ∃ z, z = L.length := ⟨_, rfl⟩
            have hz0 : 0 < z := by omega
            rw [← hz] at LM
            have HZ := Lib.hid hz
            have hLq : ((z : Int) == 0) = false := by simp; omega
            clear hz
            clear hl1 hl2 hlf hi hL0
            have HcW := Lib.hid hW
            have HcS := Lib.hid hSp
            have HcH := Lib.hid hH
            have HRe := Lib.hid hRe
            have HDm := Lib.hid hDm
            have HOn := Lib.hid hOn
            have HSd := Lib.hid hSd
            have HSh := Lib.hid hSh
            have HR := Lib.hid hR
            have HL0 := Lib.hid h0
            clear hSp hH hW hR hDm hRe hOn hSd hSh hS0 h0
            go_wp2_with fail
            refine LM.out.mono ?_
            rintro e w4 ⟨rfl, rfl⟩
            go_wp2_with fail
            refine FM.out.mono ?_
            rintro e w4 ⟨rfl, rfl⟩
            obtain ⟨r, hrr⟩ : ∃ r, k - p = r := ⟨_, rfl⟩
            rw [hrr]
            have HRr := Lib.hid hrr
            clear hrr
            go_upto_if 94 with fail
            go_cut [16] from 48 to 180 (fun u16 wx => ∃ t : Int, u16 = .int .i64 t ∧ Till l k s i t ∧ SwW k bx b Lb W0 wx v L u11 s.left s.out.reverse)
            case first =>
              by_cases hlt : p < k
              · obtain rfl := hac hlt
                have hr0 : 0 < r := by have := HRr.out; omega
                have hk1 : decide ((r : Int) > 0) = true := by simp; omega
                have hk2 : (0 : Int) < (r : Int) := by omega
                clear hac
                obtain ⟨g, e1, hg, hc⟩ := (HcW.out.come HX.out).at_ hlt
                cases e1
                have hx := mem_nums.1 (HX.out.perm.mem_iff.1 (List.mem_of_getElem? (getD_get (o := d) (k := p) (by rw [HDl.out]; exact hlt))))
                have HA : Hid (at_ d p = d.getD p 0) := rfl
                generalize d.getD p 0 = x at *
                obtain ⟨x0, x1⟩ := hx
                obtain ⟨j, rfl⟩ := Int.eq_ofNat_of_zero_le x0
                have hj : j < k := by omega
                obtain ⟨gA, B, mB, cB, e1, hgl, hj', c0, c1, c2, c3, c4, _⟩ := rA.both (HcW.out.below HX.out) hj
                subst e1
                have hbx := (HcW.out.box HX.out).cell
                have lbx := (HcW.out.box HX.out).lt
                have hgt : s.now < (jat l j).rel := by
                  rcases HR.out with e | ⟨_, e⟩
                  · have := HDl.out; omega
                  · rw [HA.out] at e; exact e
                have HT : Hid (Till l k s i (min (s.now + s.left i) (jat l j).rel)) := .inr ⟨_, by rw [← HA.out]; exact HcS.out.next HX.out.perm HX.out.sorted (by rw [HDl.out]; exact hlt) (by rw [HA.out]; exact hgt), rfl⟩
                rw [HLf.out] at HT
                have hbn := (jat_calm HX.out.valid j).2.2.2.2
                have hrn := hbn.2
                have hr00 := hbn.1
                clear hbn hj'
                obtain ⟨jr, hjr⟩ : ∃ jr, jr = (jat l j).rel := ⟨_, rfl⟩
                rw [← hjr] at HT hgt hrn hr00 c1
                clear hjr
                go_wp2_with fail
                go_region
                go_wp2_with fail
                go_meet
                case rel => exact ⟨_, rfl, HT.out, HcW.out.later (Below.drew (Below.refl _ _))⟩
              · obtain rfl : k = p := by omega
                have HT : Hid (Till l k s i (s.now + s.left i)) := .inl ⟨(by rw [show d.length = k from HDl.out]; exact HcS.out : Split l k s d d.length L).noNext HX.out.perm, rfl⟩
                rw [HLf.out] at HT
                obtain rfl : 0 = r := by have := HRr.out; omega
                have hk1 : decide (((0 : Nat) : Int) > 0) = false := by decide
                go_wp2_with fail
                go_meet
                case rel => exact ⟨_, rfl, HT.out, HcW.out⟩
            case rest =>
              obtain ⟨t, rfl, hT, hW⟩ := hcut
              have hTp := Till.pos HSd.out HOn.out hT
              rw [HLf.out] at hTp
              have ht0 : s.now < t := hTp.1
              have ht1 : t ≤ s.now + lf := hTp.2
              have HT := Lib.hid hT
              clear hT hTp
              obtain ⟨os', hos⟩ : ∃ os', os' = (addSl s.out i s.now t).reverse := ⟨_, rfl⟩
              have HOs := Lib.hid hos
              first | go_back | go_step
              go_step
              go_cut [11] from 48 to 180 (fun u11 wx => SwW k bx b Lb W0 wx v L u11 s.left os')
              case first =>
                obtain ⟨o, ho⟩ : ∃ o, o = s.out := ⟨_, rfl⟩
                have hle := HSh.out
                rw [← ho] at hos hW hle
                clear HcW HcS HcH HRe HDm HOn HSd HSh HR HL0 HT HOs HZ LM FM
                have HcW := Lib.hid hW
                clear hW ho
                obtain ⟨ao, co, hsh⟩ := HcW.out.out.short
                rw [List.length_reverse] at hsh
                rcases o with _ | ⟨z, o⟩
                · have hos2 : os' = ([] : List Sl).reverse ++ [⟨i, s.now, t⟩] := hos
                  have hn0 : decide (((0 : Nat) : Int) > 0) = false := by decide
                  have hsh2 : u11 = .slice ao 0 co := hsh
                  subst hsh2
                  clear hsh hos
                  have hbb : ∀ ww : World, Below ww.heap.size ww (ww.alloc (.cells #[.int .i64 i, .int .i64 s.now, .int .i64 t] 52)) := fun ww => (Below.refl _ _).alloc (Nat.le_refl _) _
                  have hbs := Nat.le_trans HcW.out.size (hbb _).size
                  have hown := (HcW.out.later (hbb _)).out
                  have hnn := fun ww => Lib.hid (new_sl ww ⟨i, s.now, t⟩)
                  go_wp2_with (at_builtin; refine app_sl _ rfl (.tmp 134) (.tmp 139) rfl W0.heap.size _ _ rfl hown _ 1 ⟨i, s.now, t⟩ rfl (hnn _).out (by rw [List.length_reverse]; exact Nat.zero_le _) hbs ?_)
                  intro g cap w' ho hgr _
                  have hW2 := HcW.out.appTo HX.out ho hgr
                  clear hnn hown hbs hbb
                  go_wp2_with fail
                  go_meet
                  case rel => rw [hos2]; exact hW2
                · have hos1 : os' = if z.job = i ∧ z.till = s.now then o.reverse ++ [⟨z.job, z.fr, t⟩] else (o.reverse ++ [z]) ++ [⟨i, s.now, t⟩] := by
                    rw [hos]
                    unfold addSl
                    simp only
                    split
                    · rw [List.reverse_cons]
                    · rw [List.reverse_cons, List.reverse_cons]
                  have HO1 := Lib.hid hos1
                  clear hos1 hos hsh
                  have hW1 := HcW.out
                  rw [List.reverse_cons] at hW1
                  obtain ⟨g, c2, e2, hc2, hMg, hgl, hgf⟩ := hW1.out.form (by simp)
                  rw [show (o.reverse ++ [z]).length = o.reverse.length + 1 by simp] at e2 hc2
                  subst e2
                  obtain ⟨y0, y1, y2⟩ := hW1.out.last
                  have hJ := Lib.hid (hW1.lastTo HX.out t)
                  have HN : Hid ((o.reverse ++ [z]).length ≤ 1000) := by
                    have := HX.out.n64
                    simp only [List.length_cons] at hle
                    show _ ≤ _
                    simp only [List.length_append, List.length_reverse, List.length_cons, List.length_nil]
                    omega
                  have hq2 : o.reverse.length + 1 ≤ 200 := by
                    have := HX.out.n64
                    simp only [List.length_cons] at hle
                    rw [List.length_reverse]
                    omega
                  obtain ⟨e, he⟩ : ∃ e, e = o.reverse.length := ⟨_, rfl⟩
                  rw [← he] at y0 y1 y2 hJ hc2 hq2 hW1 ⊢
                  have HW1 := Lib.hid hW1
                  clear hW1 he hle HcW
                  have hq1 : decide (((e + 1 : Nat) : Int) > 0) = true := decide_eq_true (by omega)
                  have en : ((e + 1 : Nat) : Int) - 1 = (e : Int) := by omega
                  have en2 : ((e : Int) + 1) - 1 = (e : Int) := by omega
                  have en3 : (e : Int) < ((e + 1 : Nat) : Int) := by omega
                  have f2 := hgf (e * 3 + 2)
                  clear hgf
                  by_cases a1 : z.job = (i : Int) ∧ z.till = s.now
                  · have HO2 : Hid (os' = o.reverse ++ [⟨z.job, z.fr, t⟩]) := by show _ = _; rw [HO1.out, if_pos a1]
                    have hb1 : (z.job == (i : Int)) = true := by simpa using a1.1
                    have hb2 : (z.till == s.now) = true := by simpa using a1.2
                    clear HO1
                    go_wp2_with fail
                    go_meet
                    case rel => rw [HO2.out]; exact hJ.out
                  · have HO2 : Hid (os' = (o.reverse ++ [z]) ++ [⟨i, s.now, t⟩]) := by show _ = _; rw [HO1.out, if_neg a1]
                    clear HO1 hJ
                    have hbb : ∀ ww : World, Below ww.heap.size ww (ww.alloc (.cells #[.int .i64 i, .int .i64 s.now, .int .i64 t] 52)) := fun ww => (Below.refl _ _).alloc (Nat.le_refl _) _
                    have hbs := Nat.le_trans HW1.out.size (hbb _).size
                    have hown := (HW1.out.later (hbb _)).out
                    have hnn := fun ww => Lib.hid (new_sl ww ⟨i, s.now, t⟩)
                    by_cases a2 : z.job = (i : Int)
                    · have hb1 : (z.job == (i : Int)) = true := by simpa using a2
                      have hb2 : (z.till == s.now) = false := by simpa using fun h => a1 ⟨a2, h⟩
                      clear a1
                      go_wp2_with (at_builtin; refine app_sl _ rfl (.tmp 134) (.tmp 139) rfl W0.heap.size _ (o.reverse ++ [z]) rfl hown _ 1 ⟨i, s.now, t⟩ rfl (hnn _).out HN.out hbs ?_)
                      intro g cap w' ho hgr _
                      have hW2 := HW1.out.appTo HX.out ho hgr
                      clear hnn hown hbs hbb
                      go_wp2_with fail
                      go_meet
                      case rel => rw [HO2.out, List.append_assoc]; exact hW2
                    · have hb1 : (z.job == (i : Int)) = false := by simpa using a2
                      clear a1
                      go_wp2_with (at_builtin; refine app_sl _ rfl (.tmp 134) (.tmp 139) rfl W0.heap.size _ (o.reverse ++ [z]) rfl hown _ 1 ⟨i, s.now, t⟩ rfl (hnn _).out HN.out hbs ?_)
                      intro g cap w' ho hgr _
                      have hW2 := HW1.out.appTo HX.out ho hgr
                      clear hnn hown hbs hbb
                      go_wp2_with fail
                      go_meet
                      case rel => rw [HO2.out, List.append_assoc]; exact hW2
              case rest =>
                have hW := hcut
                clear hcut HcW cL lL
                have cL := hW.left.at_ hik
                rw [HLf.out] at cL
                have fL := hW.left.frozen i
                have lL := hW.left.lt
                have hW2 := hW.leftTo HX.out i (lf - (t - s.now))
                have cL3 := hW2.left.at_ hik
                have lL3 := hW2.left.lt
                rw [show upd s.left (i : Int) (lf - (t - s.now)) (i : Int) = lf - (t - s.now) by unfold upd; rw [if_pos rfl]] at cL3
                have hiL : (i : Int) ∈ L := by rw [← HI.out]; exact List.mem_of_getElem? (getD_get HL0.out)
                have HiL := Lib.hid hiL
                have HW2 := Lib.hid hW2
                clear hW hW2 hiL
                have hnb1 : s.now ≤ 1280000 := hnb
                by_cases hz : lf - (t - s.now) = 0
                · have hbz : (lf - (t - s.now) == 0) = true := by simpa using hz
                  have hLD : Hid (∀ z ∈ L, 0 ≤ z ∧ z < (k : Int)) := fun z hz => by have h1 := HcS.out.isReady HX.out.perm hz; exact ⟨h1.1, h1.2.1⟩
                  have hLn : L.length ≤ 900 := by
                    have h1 := short_of_nodup k L HcS.out.nodup hLD.out
                    have := HX.out.n64
                    omega
                  obtain ⟨m1, hm1⟩ : ∃ m1, L.length = m1 + 1 := ⟨L.length - 1, by have := HL0.out; omega⟩
                  have PM := Lib.hid (HW2.out.pop HX.out hLD.out m1 hm1 (by omega) HcH.out)
                  have HZz := Lib.hid hz
                  clear hLD hLn hm1 hz
                  go_wp2_with fail
                  refine PM.out.mono ?_
                  rintro e w4 ⟨r4, rfl, v4, L4, hP4, hH4, hW4⟩
                  rw [HI.out] at hP4
                  have HP4 := Lib.hid hP4
                  have HH4 := Lib.hid hH4
                  have hbx := (hW4.box HX.out).cell
                  have lbx := (hW4.box HX.out).lt
                  obtain ⟨gA, B, mB, cB, e1, hgl, hj', c0, c1, c2, c3, c4, _⟩ := rA.both (hW4.below HX.out) hik
                  subst e1
                  have HW4 : Hid (SwW k bx b Lb W0 w4 v4 L4 u11 (run s i t).left (run s i t).out.reverse) := by
                    have h1 := hW4
                    rw [← HLf.out, HOs.out] at h1
                    exact h1
                  have hd2 := (jat_calm HX.out.valid i).2.2
                  have hd0 := hd2.1
                  have hd1 := hd2.2.1
                  have hDF := Lib.hid (HDm.out.fin (t := t) hik HOn.out.1.2.2.1 (by rw [HLf.out]; exact HZz.out))
                  clear PM hP4 hH4 hW4 hj' hd2 c0 c1 c3 c4 cL cL3 fL lL lL3 HW2
                  generalize (jat l i).due = du at *
                  have hq9 : q ≤ 1280000 := by omega
                  have hfin : Hid (∀ m', m' = (if q = 0 ∨ t - du > m then t - du else m) → ∃ (p' : Nat) (s' : St) (v' : Value) (L' : List Int) (q' m'' : Int), p' ≤ k ∧ ComeV Rc k p' (.slice (some ac) r r) ∧ Value.int .i64 t = .int .i64 s'.now ∧ Value.int .i64 m' = .int .i64 m'' ∧ Value.int .i64 (q + 1) = .int .i64 q' ∧ SwW k bx b Lb W0 w4 v' L' u11 s'.left s'.out.reverse ∧ HeapP (urgLt l) L' L'.length ∧ Split l k s' d p' L' ∧ Reach l k (start l) s' ∧ DoneM l k s' q' m'' ∧ 0 ≤ q' ∧ q' ≤ s'.now) := fun m' hm' =>
                    ⟨p, run s i t, v4, L4, q + 1, m', hp, ⟨ac, by rw [HRr.out], hac⟩, rfl, rfl, rfl, HW4.out, HH4.out, HcS.out.done_ HX.out.nodup HiL.out (by omega) (by rw [HLf.out]; exact HZz.out) HP4.out, .next HRe.out (.run HOn.out HT.out), by rw [hm']; exact hDF.out, by omega, by show q + 1 ≤ t; omega⟩
                  clear HW4 HP4 HH4 hDF HZz
                  by_cases hq0 : q = 0
                  · subst hq0
                    have hb0 : ((0 : Int) == 0) = true := by decide
                    have HF := Lib.hid (hfin.out (t - du) (by rw [if_pos (.inl rfl)]))
                    clear hfin
                    go_wp2_with fail
                    go_roundw
                    case rel => exact HF.out
                    case measure => simp [intOf]; omega
                  · have hb0 : (q == 0) = false := by simpa using hq0
                    by_cases hgm : t - du > m
                    · have hb1 : decide (t - du > m) = true := decide_eq_true hgm
                      have HF := Lib.hid (hfin.out (t - du) (by rw [if_pos (.inr hgm)]))
                      clear hfin
                      go_wp2_with fail
                      go_roundw
                      case rel => exact HF.out
                      case measure => simp [intOf]; omega
                    · have hb1 : decide (t - du > m) = false := decide_eq_false hgm
                      have HF := Lib.hid (hfin.out m (by rw [if_neg (by omega)]))
                      clear hfin
                      go_wp2_with fail
                      go_roundw
                      case rel => exact HF.out
                      case measure => simp [intOf]; omega
                · have hbz : (lf - (t - s.now) == 0) = false := by simpa using hz
                  have h4 := HW2.out
                  rw [show upd s.left (i : Int) (lf - (t - s.now)) = upd s.left (i : Int) (s.left i - (t - s.now)) by rw [HLf.out], HOs.out] at h4
                  have HW4 := Lib.hid h4
                  clear h4
                  have HSp4 := Lib.hid (HcS.out.run_ HX.out.nodup HiL.out (Int.le_of_lt ht0) (by rw [HLf.out]; exact hz))
                  have HDm4 := Lib.hid (HDm.out.go HOn.out.1.2.2.1 (by rw [HLf.out]; exact hz))
                  clear HW2 hz
                  go_wp2_with fail
                  go_roundw
                  case rel => exact ⟨p, run s i t, v, L, q, m, hp, ⟨ac, by rw [HRr.out], hac⟩, rfl, rfl, rfl, HW4.out, HcH.out, HSp4.out, .next HRe.out (.run HOn.out HT.out), HDm4.out, q0, by show q ≤ t; omega⟩
                  case measure => simp [intOf]; omega
end Go.Proofs.Ytnfcigbiebbjdaa
