/-
  An order made of another one by exchanges.
  Conditions: the order is not longer than 1000.
-/
import Derived.Test.YtnfcigbiebbjdaaQRef
namespace Go.Proofs.Ytnfcigbiebbjdaa
open Go.RowKit

def MixR (w : World) (n : Nat) (l : List Int) (e : Ending) (w' : World) : Prop := ∃ A c o, e = .returned (.slice A n c) ∧ o.Perm l ∧ RowH w' A n o ∧ Below w.heap.size w w'
theorem own_later {w w' : World} {base E s : Nat} {v : Value} {n : Nat} {xs : List Value} (h : w.ownsRow base E s v n xs) (hb : Below w.heap.size w w') : w'.ownsRow base E s v n xs :=
  h.kept (only_of_below hb none) (by cases hv : v.ownBlock with | none => exact .inl rfl | some g => exact .inr (by simp))
theorem getD_set_perm {o : List Int} {a b : Nat} (ha : a < o.length) (hb : b < o.length) : ((o.set a (o.getD b 0)).set b (o.getD a 0)).Perm o := by
  have e1 : o.getD a 0 = o[a] := by rw [List.getD_eq_getElem?_getD, List.getElem?_eq_getElem ha]; rfl
  have e2 : o.getD b 0 = o[b] := by rw [List.getD_eq_getElem?_getD, List.getElem?_eq_getElem hb]; rfl
  rw [e1, e2]
  exact List.set_set_perm ha hb

set_option maxHeartbeats 4000000 in
theorem mixed_any (A K : Option Addr) (n c m d : Nat) (l p : List Int) (w : World) (rA : RowH w A n l) (rK : RowI w K m p) (hn : n ≤ 1000) :
    Calls Try.prog 22 #[.slice A n c, .slice K m d] w (MixR w n l) := by
  have hb0 : Below w.heap.size w (w.alloc (.cells #[] 3)) := (Below.refl _ _).alloc (Nat.le_refl _) _
  have hmade : (w.alloc (.cells #[] 3)).ownsRow w.heap.size 3 1 (.slice (some ⟨w.heap.size, 0, none⟩) 0 0) 0 (([] : List Int).map (Value.int .i64)) := World.ownsRow_made (base := w.heap.size) (e := 3) (size := 1) w #[] 0 (by simp) (by unfold maxLen; omega) (by simp)
  have rA1 := (rA.later hb0).rowI
  have hlA := rA.1
  go_enter Try.func22, Try.ntmps22
  go_wp2_with (at_builtin; refine app_ints _ rfl (.tmp 9) (.tmp 10) rfl w.heap.size _ 0 [] rfl hmade A n c l rfl rA1 (by omega) (by simp) ?_)
  intro v w1 hown hgr
  have hb1 := hb0.grown hgr (by simp) (fun k hk => (hmade.lt k hk).1)
  obtain ⟨B, c', rfl⟩ := own_slice hown
  clear hmade rA1 hgr hb0 rA
  go_wp2_with fail
  go_loopw [6] (fun i wr => ∃ (k : Nat) (o : List Int), k ≤ 13 ∧ i = .int .i64 k ∧ Hid (o.Perm l) ∧ wr.ownsRow w.heap.size 3 1 (.slice B n c') n (o.map (Value.int .i64)) ∧ Below w.heap.size w wr) (fun i _ => 20 - (intOf i).toNat)
  case atStart => exact ⟨0, l, by omega, rfl, List.Perm.refl _, hown, hb1⟩
  case round =>
    clear hown hb1
    obtain ⟨k, o, hk, rfl, hP, hown, hb⟩ := hrel
    by_cases hc1 : (k : Int) + 1 < (m : Int)
    · have t1 : decide ((k : Int) + 1 < (m : Int)) = true := by simpa using hc1
      by_cases hc2 : (k : Int) < 12
      · have t2 : decide ((k : Int) < 12) = true := by simpa using hc2
        by_cases hc3 : (0 : Int) < (n : Int)
        · have t3 : decide ((n : Int) > 0) = true := by simp; omega
          have hn0 : 0 < n := by omega
          obtain ⟨g, cap, e1, hg1, hg2⟩ := hown.form hn0
          cases e1
          obtain ⟨ad, rfl, had, ck⟩ := (rK.later hb).at_ (show k < m by omega)
          obtain ⟨ad', e1, _, ck1⟩ := (rK.later hb).at_ (show k + 1 < m by omega)
          cases e1
          generalize p.getD k 0 = x at *
          generalize p.getD (k + 1) 0 = y at *
          have q1 := Int.emod_nonneg x (show (n : Int) ≠ 0 by omega)
          have q2 := Int.emod_lt_of_pos x (show (0 : Int) < n by omega)
          have q3 := Int.emod_nonneg y (show (n : Int) ≠ 0 by omega)
          have q4 := Int.emod_lt_of_pos y (show (0 : Int) < n by omega)
          have M1 := fun w => Lib.hid (fold_any x n w (by omega) (by omega))
          have M2 := fun w => Lib.hid (fold_any y n w (by omega) (by omega))
          have HM1 := Lib.hid M1
          have HM2 := Lib.hid M2
          clear M1 M2
          generalize x % (n : Int) = a at *
          generalize y % (n : Int) = b at *
          obtain ⟨a, rfl⟩ := Int.eq_ofNat_of_zero_le q1
          obtain ⟨b, rfl⟩ := Int.eq_ofNat_of_zero_le q3
          have ha : a < n := by omega
          have hbn : b < n := by omega
          clear q1 q2 q3 q4
          have hxl := fun z : Later wr => z.property.cell (p := ad.add k) (by rw [add_block]; exact had)
          have hxl2 := fun z : Later wr => z.property.cell (p := ad.add (k + 1)) (by rw [add_block]; exact had)
          have hk1 : (k : Int) < (m : Int) := by omega
          have hadd : ad.add (k + 1) = ⟨ad.block, ad.off + (k + 1), none⟩ := by unfold Addr.add; rw [if_neg (by omega)]
          rw [hadd] at ck1 hxl2
          clear hadd
          have hol : o.length = n := by rw [hP.out.length_eq, hlA]
          go_wp2_with fail
          refine wp_region_later (by kernel_rfl) (by kernel_rfl) ?_
          iterate 7 (go_big_quiet_step ((go_at_call 24; exact later_same (HM1.out _).out)))
          repeat (go_big_quiet_step ((go_at_call 24; exact later_same (HM2.out _).out)))
          refine wpQuiet_nil ?_
          rintro w2 ⟨⟨_, hb2⟩, rfl⟩
          have hown2 := own_later hown hb2
          have hbw := hb.trans (hb2.mono hb.size)
          clear hxl hxl2 ck ck1 hown hb hb2
          have ca : w2.cell? ⟨g, a, none⟩ = some (.int .i64 (o.getD a 0)) := by
            rw [hown2.cellAt a (by omega), List.getElem?_map, getD_get (by omega)]; rfl
          have cb : w2.cell? ⟨g, b, none⟩ = some (.int .i64 (o.getD b 0)) := by
            rw [hown2.cellAt b (by omega), List.getElem?_map, getD_get (by omega)]; rfl
          have fa := hown2.frozenAt a
          have fb := hown2.frozenAt b
          have HPm := Lib.hid ((getD_set_perm (o := o) (a := a) (b := b) (by omega) (by omega)).trans hP.out)
          have h1 := hown2.stored a (.int .i64 (o.getD b 0))
          have h2 := h1.1.stored b (.int .i64 (o.getD a 0))
          have h3 : ((o.map (Value.int .i64)).set a (.int .i64 (o.getD b 0))).set b (.int .i64 (o.getD a 0)) = ((o.set a (o.getD b 0)).set b (o.getD a 0)).map (Value.int .i64) := by rw [List.map_set, List.map_set]
          rw [h3] at h2
          have H2 := Lib.hid h2.1
          have hfin : Hid (Below w.heap.size w ((w2.setCell ⟨g, a, none⟩ (.int .i64 (o.getD b 0))).setCell ⟨g, b, none⟩ (.int .i64 (o.getD a 0)))) := (hbw.setCell (p := ⟨g, a, none⟩) hg1 _).setCell (p := ⟨g, b, none⟩) hg1 _
          clear h1 h2 h3 hown2
          generalize o.getD a 0 = va at *
          generalize o.getD b 0 = vb at *
          by_cases hab : a = b
          · subst hab
            have hv : va = vb := by rw [ca] at cb; simpa using cb
            subst hv
            clear cb
            go_wp2_with fail
            go_big_region
            all_goals go_wp2_with fail
            go_roundw
            case rel => exact ⟨k + 2, _, by omega, by go_num, HPm, H2.out, hfin.out.drew⟩
            case measure => simp [intOf]; omega
          · have hne : a ≠ b := hab
            go_wp2_with fail
            go_big_region
            all_goals go_wp2_with fail
            go_roundw
            case rel => exact ⟨k + 2, _, by omega, by go_num, HPm, H2.out, hfin.out.drew⟩
            case measure => simp [intOf]; omega
        · have t3 : decide ((n : Int) > 0) = false := by simp; omega
          have t4 : ¬ (0 : Int) < (n : Int) := hc3
          have hR := own_rowH hown
          go_wp2_with fail
          go_ret
          exact ⟨_, _, o, rfl, hP.out, hR, hb⟩
      · have t2 : decide ((k : Int) < 12) = false := by simpa using hc2
        have hR := own_rowH hown
        go_wp2_with fail
        go_ret
        exact ⟨_, _, o, rfl, hP.out, hR, hb⟩
    · have t1 : decide ((k : Int) + 1 < (m : Int)) = false := by simpa using hc1
      have hR := own_rowH hown
      go_wp2_with fail
      go_ret
      exact ⟨_, _, o, rfl, hP.out, hR, hb⟩
end Go.Proofs.Ytnfcigbiebbjdaa
