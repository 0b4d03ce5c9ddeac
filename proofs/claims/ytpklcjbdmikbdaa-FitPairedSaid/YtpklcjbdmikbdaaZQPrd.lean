/-
Proved: FitPaired: if Pair pairs all shafts nothing is ground and the holes are the same; Grind finds holes exactly if a clearance without a lower bound pairs all shafts.
  Conditions: none.
-/
import Derived.Test.YtpklcjbdmikbdaaGU
import Derived.Test.YtpklcjbdmikbdaaGO
namespace Go.Proofs.Ytpklcjbdmikbdaa.fitPaired
open Go.RowKit

theorem mx_ex {F : Nat → Nat → Prop} {A B : Nat → Prop} : ∀ N, (∀ M, Mat F A B M → M.length ≤ N) → ∃ n, Mx F A B n
  | 0, h => ⟨0, ⟨[], Mat.nil, rfl⟩, h⟩
  | N + 1, h => by
    by_cases e : ∃ M, Mat F A B M ∧ M.length = N + 1
    · exact ⟨N + 1, e, h⟩
    · refine mx_ex N fun M hM => ?_
      have h1 := h M hM
      have h2 : M.length ≠ N + 1 := fun e2 => e ⟨M, hM, e2⟩
      omega
theorem fit_ex (s h : List Int) (lo hi : Int) : ∃ n, Mx (fitP s h lo hi) (fun _ => True) (· < h.length) n := mx_ex s.length fun M hM => by
  have := len_of_sub (b := List.range s.length) hM.one (fun i hi => by
    obtain ⟨e, he, rfl⟩ := List.mem_map.1 hi
    exact List.mem_range.2 (hM.ok e he).2.2.1)
  rwa [List.length_map, List.length_range] at this
set_option maxRecDepth 100000 in
set_option maxHeartbeats 16000000 in
theorem walk (A B : Option Addr) (n c m d : Nat) (lo hi : Int) (s t : List Int) (w : World) (hsA : RowI w A n s) (hcA : n ≤ c) (hnA : A = none → c = 0) (hsB : RowI w B m t) (hcB : m ≤ d) (hnB : B = none → d = 0) :
    Calls Try.prog 15 #[.agg #[.slice A n c, .slice B m d, .int .i64 lo, .int .i64 hi]] w fun e w' => e = .returned (.bool true) ∧ Below w.heap.size w w' := by
  have hb0 : Below w.heap.size w (w.alloc (.cells #[.slice A n c, .slice B m d, .int .i64 lo, .int .i64 hi] 37)) := (Below.refl _ _).alloc (Nat.le_refl _) _
  have kY := Blk.new w 37 #[.slice A n c, .slice B m d, .int .i64 lo, .int .i64 hi]
  have hSA : SrcI w A n c s := ⟨hsA, hcA, hnA⟩
  have hSB : SrcI w B m d t := ⟨hsB, hcB, hnB⟩
  have HF := Lib.hid (few_any A B n c m d 20 s t lo hi _ (hSA.later hb0) (hSB.later hb0) (by omega))
  have cY := kY.cell
  have lY := kY.lt
  clear hsA hcA hnA hsB hcB hnB hSA hSB
  go_enter Try.func15, Try.ntmps15
  go_wp2_with fail
  refine HF.out.mono ?_
  rintro e w1 ⟨v1, v2, rfl, hown1, hown2, hb1⟩
  obtain ⟨A1, c1, rfl⟩ := own_slice hown1
  obtain ⟨B1, d1, rfl⟩ := own_slice hown2
  have hb2 := hb0.trans (hb1.mono hb0.size)
  have hS65 := fewL_len s 20
  have hT65 := fewL_len t 20
  generalize fewL s 20 = S at *
  generalize fewL t 20 = T at *
  have rS1 := own_rowH hown1
  have rT1 := own_rowH hown2
  have kX := Blk.new w1 37 #[.slice A1 S.length c1, .slice B1 T.length d1, .int .i64 lo, .int .i64 hi]
  have hb3 : Below w1.heap.size w1 (w1.alloc (.cells #[.slice A1 S.length c1, .slice B1 T.length d1, .int .i64 lo, .int .i64 hi] 37)) := (Below.refl _ _).alloc (Nat.le_refl _) _
  have rS := rS1.later hb3
  have rT := rT1.later hb3
  have hb := hb2.trans (hb3.mono hb2.size)
  clear HF cY lY hb0 kY hown1 hown2 hb1 hb2 hb3 rS1 rT1
  go_upto_region 2 with fail
  revert kX rS rT hb
  generalize w1.alloc (.cells #[.slice A1 S.length c1, .slice B1 T.length d1, .int .i64 lo, .int .i64 hi] 37) = w2
  generalize w1.heap.size = X
  intro kX rS rT hb
  have hbl := hb
  have hbf := Below.refl w2.heap.size w2
  have HV := Lib.hid fun w' h => valid_shop A1 B1 S.length c1 T.length d1 S T lo hi w' (rS.later (w' := w') h).rowI (rT.later h).rowI (by omega) (by omega)
  clear hb
  cases hpb : piecesB S T lo hi with
  | false =>
    rw [hpb] at HV
    clear hpb rS rT
    have ckX := kX.cell
    have lkX := kX.lt
    go_wp2_with fail
    refine (HV.out _ hbf).mono ?_
    rintro e wc1 ⟨rfl, hbc⟩
    replace hbl := hbl.trans (hbc.mono hbl.size)
    clear hbc
    clear ckX lkX
    go_wp2_with fail
    refine (lives_any _).mono ?_
    rintro e wc2 ⟨rfl, hbc⟩
    replace hbl := hbl.trans (hbc.mono hbl.size)
    clear hbc
    go_wp2_with fail
    go_ret
    exact ⟨rfl, hbl⟩
  | true =>
    rw [hpb] at HV
    obtain ⟨hs, hh, l1, l2, hsp⟩ := piecesB_iff.1 hpb
    obtain ⟨sp1, sp2', sp3⟩ := spanB_iff.1 hsp
    have HS := Lib.hid hs
    have HH := Lib.hid hh
    have HP := Lib.hid fun w' (h : Below w2.heap.size w2 w') => pair_yes A1 B1 c1 d1 S T lo hi w' (rS.later h) (rT.later h) hpb
    have HGR := Lib.hid fun w' (h : Below w2.heap.size w2 w') => grind_yes A1 B1 c1 d1 S T lo hi w' (rS.later h) (rT.later h) hpb
    have HRS := Lib.hid rS
    have HRT := Lib.hid rT
    have HGAP : Hid (∀ x k : Nat, -2000000 ≤ T.getD k 0 - S.getD x 0) := fun x k => by
      have b1 := hs.at_ x
      have b2 := hh.at_ k
      omega
    clear hpb hs hh hsp
    have ckX := kX.cell
    have lkX := kX.lt
    go_wp2_with fail
    refine (HV.out _ hbf).mono ?_
    rintro e wc3 ⟨rfl, hbc⟩
    replace kX := kX.later hbc
    replace hbf := hbf.trans (hbc.mono hbf.size)
    replace hbl := hbl.trans (hbc.mono hbl.size)
    clear hbc
    clear ckX lkX
    have ckX := kX.cell
    have lkX := kX.lt
    go_wp2_with fail
    refine (HP.out _ hbf).mono ?_
    rintro e w3 ⟨R, cr, nn, left, tt, BB, rfl, hR, _, hpt, hmx, hbc⟩
    have hlen := hpt.len
    have rP := RowH.of_row hR hlen
    have HPT := Lib.hid hpt
    have HMX := Lib.hid hmx
    clear HP hpt hmx hR hlen
    replace kX := kX.later hbc
    replace hbf := hbf.trans (hbc.mono hbf.size)
    replace hbl := hbl.trans (hbc.mono hbl.size)
    clear hbc
    clear ckX lkX
    have ckX := kX.cell
    have lkX := kX.lt
    go_wp2_with fail
    refine (HGR.out _ hbf).mono ?_
    rintro e w4 hres
    rcases hres with ⟨rfl, hno, hbc⟩ | ⟨v, ut, tot, left2, BG, rfl, hown, hlow, hgt, hbc⟩
    · have HNO := Lib.hid hno
      clear hno HGR
      replace kX := kX.later hbc
      replace hbf := hbf.trans (hbc.mono hbf.size)
      replace hbl := hbl.trans (hbc.mono hbl.size)
      clear hbc
      clear ckX lkX
      have ckX := kX.cell
      have lkX := kX.lt
      go_wp2_with fail
      refine (lives_any _).mono ?_
      rintro e wc4 ⟨rfl, hbc⟩
      replace kX := kX.later hbc
      replace hbf := hbf.trans (hbc.mono hbf.size)
      replace hbl := hbl.trans (hbc.mono hbl.size)
      clear hbc
      clear ckX lkX
      obtain ⟨n2, hn2⟩ := fit_ex S T (-4000000) hi
      have HMV : Hid (∀ n, Mx (fitP S T (-4000000) hi) (fun _ => True) (· < T.length) n → n = n2) := fun n h => h.uniq hn2
      have hne : n2 ≠ S.length := fun e => by
        have := (able_iff (lo := lo) HGAP.out hn2 (v := 1099511627776) (.inr ⟨rfl, HNO.out⟩)).1 e
        omega
      have hbe : ((n2 : Int) == (S.length : Int)) = false := by simp; omega
      have hlt := paired_no HMX.out HPT.out HNO.out
      have hd : decide ((nn : Int) < (S.length : Int)) = true := decide_eq_true (by omega)
      have hd' : decide (nn < S.length) = true := decide_eq_true hlt
      clear hn2 hne hlt
      obtain ⟨wq, hwq⟩ : ∃ x, x = wc4 := ⟨_, rfl⟩
      subst hwq
      have rSq := HRS.out.later hbf
      have rTq := HRT.out.later hbf
      have HM : Hid (∀ x : Later wq, Hid (Calls Try.prog 42 #[.slice A1 S.length c1, .slice B1 T.length d1, .agg #[.int .i64 (-4000000), .int .i64 hi]] x.val fun e w' => e = .returned (.int .i64 ((n2 : Int))) ∧ ∃ y : Later wq, w' = y.val)) := fun x =>
        later_call ((rmost_any (ca := c1) (cb := d1) (lo := -4000000) (hi := hi) x.val HS.out HH.out (by omega) (by omega) (rSq.later x.property).rowQ (rTq.later x.property).rowQ).mono fun e w' ⟨n, h1, h2, h3, h4⟩ => ⟨by rw [h1, HMV.out n h2], h4⟩)
      clear rSq rTq
      have ckX := kX.cell
      have lkX := kX.lt
      have hxl := later_cell (w := wq)
      go_wp2_with fail
      refine wp_region_later (by kernel_rfl) (by kernel_rfl) ?_
      repeat (go_big_quiet_step ((go_at_call 42; exact (HM.out _).out)))
      refine wpQuiet_nil ?_
      rintro w6 ⟨⟨_, hbc⟩, rfl⟩
      clear HM hxl
      replace kX := kX.later hbc
      replace hbf := hbf.trans (hbc.mono hbf.size)
      replace hbl := hbl.trans (hbc.mono hbl.size)
      clear hbc
      clear ckX lkX
      have ckX := kX.cell
      have lkX := kX.lt
      go_wp2_with fail
      go_ret
      exact ⟨rfl, hbl⟩
    · obtain ⟨A9, c9, rfl⟩ := own_slice hown
      have rQ := own_rowH hown
      have HALL := Lib.hid (paired_all HMX.out HPT.out hlow hgt)
      have HMV : Hid (∀ n, Mx (fitP S T (-4000000) hi) (fun _ => True) (· < T.length) n → n = S.length) := fun n h => (able_iff (lo := lo) HGAP.out h (v := tot) (.inl ⟨by
        have := hlow.bound fun x k => ⟨gcost_pos S T lo x k, gcost_bound HS.out HH.out (by omega) x k⟩
        omega, hlow⟩)).2 (by
        have := hlow.bound fun x k => ⟨gcost_pos S T lo x k, gcost_bound HS.out HH.out (by omega) x k⟩
        omega)
      clear HGR hown hlow hgt
      replace rP := rP.later hbc
      replace kX := kX.later hbc
      replace hbf := hbf.trans (hbc.mono hbf.size)
      replace hbl := hbl.trans (hbc.mono hbl.size)
      clear hbc
      clear ckX lkX
      have ckX := kX.cell
      have lkX := kX.lt
      go_wp2_with fail
      refine (lives_any _).mono ?_
      rintro e wc5 ⟨rfl, hbc⟩
      replace kX := kX.later hbc
      replace rP := rP.later hbc
      replace rQ := rQ.later hbc
      replace hbf := hbf.trans (hbc.mono hbf.size)
      replace hbl := hbl.trans (hbc.mono hbl.size)
      clear hbc
      clear ckX lkX
      have hbe : ((S.length : Int) == (S.length : Int)) = true := by simp
      obtain ⟨wq, hwq⟩ : ∃ x, x = wc5 := ⟨_, rfl⟩
      subst hwq
      have rSq := HRS.out.later hbf
      have rTq := HRT.out.later hbf
      have HM : Hid (∀ x : Later wq, Hid (Calls Try.prog 42 #[.slice A1 S.length c1, .slice B1 T.length d1, .agg #[.int .i64 (-4000000), .int .i64 hi]] x.val fun e w' => e = .returned (.int .i64 ((S.length : Int))) ∧ ∃ y : Later wq, w' = y.val)) := fun x =>
        later_call ((rmost_any (ca := c1) (cb := d1) (lo := -4000000) (hi := hi) x.val HS.out HH.out (by omega) (by omega) (rSq.later x.property).rowQ (rTq.later x.property).rowQ).mono fun e w' ⟨n, h1, h2, h3, h4⟩ => ⟨by rw [h1, HMV.out n h2], h4⟩)
      clear rSq rTq
      have ckX := kX.cell
      have lkX := kX.lt
      have hxl := later_cell (w := wq)
      go_wp2_with fail
      refine wp_region_later (by kernel_rfl) (by kernel_rfl) ?_
      repeat (go_big_quiet_step ((go_at_call 42; exact (HM.out _).out)))
      refine wpQuiet_nil ?_
      rintro w6 ⟨⟨_, hbc⟩, rfl⟩
      clear HM hxl
      replace kX := kX.later hbc
      replace hbf := hbf.trans (hbc.mono hbf.size)
      replace hbl := hbl.trans (hbc.mono hbl.size)
      replace rP := rP.later hbc
      replace rQ := rQ.later hbc
      clear hbc
      clear ckX lkX
      rcases Classical.em (tot = 0) with h0 | h0
      · have hb2 : (tot == 0) = true := by simp [h0]
        have hb3 : (tot != 0) = false := by simp [h0]
        have hnn := HALL.out.1.2 h0
        have hb1 : ((nn : Int) == (S.length : Int)) = true := by simp [hnn]
        have he := HALL.out.2 h0
        have HSM := Lib.hid (same_any (some ⟨R, 0, none⟩) A9 S.length S.length cr c9 tt ut _ rP rQ (by omega) (by omega))
        rw [decide_eq_true he] at HSM
        clear h0 hnn he rP rQ
        have ckX := kX.cell
        have lkX := kX.lt
        go_wp2_with fail
        refine (HSM.out).mono ?_
        rintro e wc6 ⟨rfl, hbc⟩
        replace hbl := hbl.trans (hbc.mono hbl.size)
        clear hbc
        clear ckX lkX
        go_wp2_with fail
        go_ret
        exact ⟨rfl, hbl⟩
      · have hb2 : (tot == 0) = false := by simp [h0]
        have hb3 : (tot != 0) = true := by simp [h0]
        have hnn : nn ≠ S.length := fun e => h0 (HALL.out.1.1 e)
        have hb1 : ((nn : Int) == (S.length : Int)) = false := by simp; omega
        clear h0 hnn rP rQ
        have ckX := kX.cell
        have lkX := kX.lt
        go_wp2_with fail
        go_ret
        exact ⟨rfl, hbl⟩
end Go.Proofs.Ytpklcjbdmikbdaa.fitPaired
namespace Go.Proofs.Ytpklcjbdmikbdaa.fitPaired
open Go.ChangeShapes Go.WideShapes Go.ChangeAt Go.RowKit


set_option maxHeartbeats 2000000 in
set_option maxHeartbeats 4000000 in
set_option maxRecDepth 100000 in
theorem lifted (os : Os) (started : os.Started) (H : Type) (enc : TypeId × Value → H) :
    ReturnsInHanded {} Try.checked os 15 .any (Rows.fitPairedSpec.pre6 enc Try.prog Try.f15 Rows.fitPairedRow.domain false) (Rows.fitPairedSpec.post enc Try.prog Try.f15 false true false false) := by
  refine returnsInHanded_of_change (C := Try.checked) Try.own started (by kernel_rfl) Try.func15
    (ChangeSpec.witness6 (enc := enc) (C := Try.checked) false ⟨#[], #[.agg #[.slice none 0 0, .slice none 0 0, .int .i64 0, .int .i64 0]], []⟩ 8 (by kernel_rfl) (by kernel_rfl) (by kernel_rfl) (by kernel_rfl)) ?_
  intro W base args ds gs before hval0 hW hcnd _
  have hval : ∀ (j : Nat) t v, Try.f15.params[j]? = some t → args[j]? = some v → Value.okWide Try.prog W .any base t v := hval0
  have hW' := hW
  obtain ⟨p, q, hA0, hV, rfl, hfz, hnd⟩ := hW
  have hA : DataW.TrodAll enc Try.prog W 0 (fun _ => true) true Try.f15.params.toList args.toList ds p := hA0
  rw [Try.params15] at hA hval
  obtain ⟨v0, vs0, d0, ds0, p0, q0, hargs, rfl, rfl, h0, r0⟩ := trodAll_cons hA
  obtain ⟨rfl, rfl, rfl⟩ := trodAll_nil r0
  obtain rfl : args = #[v0] := by cases args; simp_all
  obtain ⟨rfl, rfl⟩ := trodVars_none hV
  obtain ⟨A0, B0, n0, c0, m0, e0, s0, t0, lo0, hi0, rfl, x0, y0, u0, x0b, y0b, u0b⟩ := open_Q (hval 0 37 v0 rfl rfl) h0
  refine (walk A0 B0 n0 c0 m0 e0 lo0 hi0 s0 t0 W x0 y0 u0 x0b y0b u0b).mono fun e W' ⟨he, hb⟩ => ?_
  exact ⟨_, he, law_post rfl (by kernel_rfl) (by kernel_rfl) hW' rfl rfl rfl hb⟩

set_option maxHeartbeats 4000000 in
set_option maxRecDepth 100000 in
theorem facts : joinedFacts Try.prog 15 Try.f15 Rows.fitPairedSpec Rows.fitPairedRow = true := by
  unfold joinedFacts
  repeat' (with_reducible refine and_t ?_ ?_)
  all_goals first
    | with_reducible exact Try.enters
    | (rw [Try.finals]; as_aux_lemma => kernel_rfl)
    | (rw [Try.made]; as_aux_lemma => kernel_rfl)
    | (as_aux_lemma => kernel_rfl)

theorem proved : Rows.FitPairedSaid :=
  OpenClaim.holds_of_wide 15 Try.f15 rfl rfl rfl rfl rfl rfl rfl ⟨rfl, rfl, rfl, rfl, rfl⟩ rfl rfl rfl rfl rfl (by as_aux_lemma => kernel_rfl) Try.func15 facts
    (of_decide_eq_true (by as_aux_lemma => kernel_rfl)) (by unfold Func.isWrapper; rw [if_neg (of_decide_eq_false (by kernel_rfl))]; exact ⟨rfl, rfl⟩)
    (fun os started H enc _ => lifted os started H enc)
#print axioms proved
end Go.Proofs.Ytpklcjbdmikbdaa.fitPaired
