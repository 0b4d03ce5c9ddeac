/-
Proved: FitCounts: Count and Yield tell how many choices fit, or ErrArg: of stacks that are small enough to try all choices.
  Conditions: none.
-/
import Derived.Test.YtpklcjbdmikbdaaGreatGC
import Derived.Test.YtpklcjbdmikbdaaGreatGE
import Derived.Test.YtpklcjbdmikbdaaGreatGO
namespace Go.Proofs.YtpklcjbdmikbdaaGreat.fitCounts
set_option maxRecDepth 100000
open Go.RowKit

theorem parts_anywhere {w : World} {A : Option Addr} {n : Nat} {l : List Prt} (h : PartsH w A n l) : PartsA w A n l := by
  refine ⟨h.1, fun h0 => ?_⟩
  obtain ⟨g, e, hg, hc⟩ := h.2 h0
  refine ⟨⟨g, 0, none⟩, e, hg, fun k p hk => ?_⟩
  have e2 : (⟨g, 0, none⟩ : Addr).add (k * 3) = ⟨g, k * 3, none⟩ := by
    unfold Addr.add
    split
    · rename_i h; rw [h]
    · simp
  rw [e2]
  obtain ⟨a, b, c⟩ := hc k p hk
  exact ⟨a, b, c⟩
theorem few_choices {L : List Prt} (hr : rightB L = true) (hm : rightB L = true → widN L ≤ 5000 ∨ L.length ≤ 1) : widN L < 10000 := by
  rcases hm hr with h | h
  · omega
  · have := widN_bound (rightB_iff.1 hr).1
    have h2 : 101 ^ L.length ≤ 101 ^ 1 := Nat.pow_le_pow_right (by omega) h
    omega
set_option maxHeartbeats 16000000 in
theorem walk (A : Option Addr) (n c : Nat) (lo hi : Int) (l : List Prt) (w : World) (hsA : PartsA w A n l) (hcA : n ≤ c) (hnA : A = none → c = 0) :
    Calls Tryz.prog 3 #[.slice A n c, .agg #[.int .i64 lo, .int .i64 hi]] w fun e w' => e = .returned (.bool true) ∧ Below w.heap.size w w' := by
  have hb0 : Below w.heap.size w (w.alloc (.cells #[.int .i64 lo, .int .i64 hi] 24)) := (Below.refl _ _).alloc (Nat.le_refl _) _
  have kN := Blk.new w 24 #[.int .i64 lo, .int .i64 hi]
  have HP := Lib.hid (light_any A n c 5000 l _ (hsA.later hb0) hcA hnA (by omega))
  clear hsA hcA hnA
  go_enter Tryz.func3, Tryz.ntmps3
  go_upto_region 1 with fail
  have HALL := And.intro kN hb0
  clear kN hb0
  revert HALL HP
  generalize w.alloc (.cells #[.int .i64 lo, .int .i64 hi] 24) = w1
  intro HP HALL
  obtain ⟨kN, hb⟩ := HALL
  go_wp2_with fail
  refine HP.out.mono ?_
  rintro e w2 ⟨A2, c2, L, rfl, rL, hl9, hcap, hmost, hb2⟩
  have kN := kN.later hb2
  have hbl := hb.trans (hb2.mono hb.size)
  have HMOST := Lib.hid hmost
  clear HP hb hb2 hmost
  have hbf := Below.refl w2.heap.size w2
  cases hrs : (rightB L && spanB lo hi) with
  | false =>
    have HC : Hid (∀ w', Below w2.heap.size w2 w' → _) := fun w' h => count_no A2 L.length c2 L lo hi w' (rL.later h) (by omega) hrs
    have HY : Hid (∀ w', Below w2.heap.size w2 w' → _) := fun w' h => yield_no A2 L.length c2 L lo hi w' (rL.later h) (by omega) hrs
    have HR : Hid (∀ w', Below w2.heap.size w2 w' → Calls Tryz.prog 8 #[.slice A2 L.length c2] w' fun e w'' => e = .returned (.bool (rightB L)) ∧ Below w'.heap.size w' w'') := fun w' h => rStack_any A2 L.length c2 L w' (rL.later h) (by omega)
    have HQ : Hid (∀ w', Calls Tryz.prog 9 #[.agg #[.int .i64 lo, .int .i64 hi], .int .i64 1000000] w' fun e w'' => e = .returned (.bool (spanB lo hi)) ∧ Below w'.heap.size w' w'') := fun w' => by have := rSpan_any lo hi 1000000 w' (by omega) (by omega); rw [span_same] at this; exact this
    have hbf := Below.refl w2.heap.size w2
    have ckN := kN.cell
    have lkN := kN.lt
    go_wp2_with fail
    refine (HC.out _ hbf).mono ?_
    rintro e wc1 ⟨rfl, hbc⟩
    replace kN := kN.later hbc
    replace hbf := hbf.trans (hbc.mono hbf.size)
    replace hbl := hbl.trans (hbc.mono hbl.size)
    clear hbc
    clear ckN lkN
    have ckN := kN.cell
    have lkN := kN.lt
    go_wp2_with fail
    refine (HY.out _ hbf).mono ?_
    rintro e wc2 ⟨rfl, hbc⟩
    replace kN := kN.later hbc
    replace hbf := hbf.trans (hbc.mono hbf.size)
    replace hbl := hbl.trans (hbc.mono hbl.size)
    clear hbc
    clear ckN lkN
    have hbn : Below wc2.heap.size wc2 (wc2.alloc (.cells #[.int .i64 0, .int .i64 0] 30)) := (Below.refl _ _).alloc (Nat.le_refl _) _
    have kY := Blk.new wc2 30 #[.int .i64 0, .int .i64 0]
    replace kN := kN.later hbn
    replace hbf := hbf.trans (hbn.mono hbf.size)
    replace hbl := hbl.trans (hbn.mono hbl.size)
    go_upto_region 4 with fail
    have HALL := And.intro kY (And.intro kN (And.intro hbf hbl))
    clear hbn kY kN hbf hbl
    revert HALL
    generalize wc2.alloc (.cells #[.int .i64 0, .int .i64 0] 30) = wy
    generalize wc2.heap.size = gY
    intro HALL
    obtain ⟨kY, kN, hbf, hbl⟩ := HALL
    clear HC HY rL HMOST hl9 hcap
    cases hr : rightB L with
    | false =>
      rw [hr] at HR
      clear hr hrs HQ
      have ckN := kN.cell
      have lkN := kN.lt
      have ckY := kY.cell
      have lkY := kY.lt
      go_wp2_with fail
      refine (HR.out _ hbf).mono ?_
      rintro e wc3 ⟨rfl, hbc⟩
      replace kY := kY.later hbc
      replace hbl := hbl.trans (hbc.mono hbl.size)
      clear hbc
      clear ckN lkN ckY lkY
      have ckY := kY.cell
      have lkY := kY.lt
      go_wp2_with fail
      refine (lives_any _).mono ?_
      rintro e wc4 ⟨rfl, hbc⟩
      replace kY := kY.later hbc
      replace hbl := hbl.trans (hbc.mono hbl.size)
      clear hbc
      clear ckY lkY
      have ckY := kY.cell
      have lkY := kY.lt
      go_wp2_with fail
      go_ret
      exact ⟨rfl, hbl⟩
    | true =>
      have hsp : spanB lo hi = false := by rw [hr, Bool.true_and] at hrs; exact hrs
      rw [hr] at HR
      rw [hsp] at HQ
      clear hr hrs hsp
      have ckN := kN.cell
      have lkN := kN.lt
      have ckY := kY.cell
      have lkY := kY.lt
      go_wp2_with fail
      refine (HR.out _ hbf).mono ?_
      rintro e wc5 ⟨rfl, hbc⟩
      replace kN := kN.later hbc
      replace kY := kY.later hbc
      replace hbf := hbf.trans (hbc.mono hbf.size)
      replace hbl := hbl.trans (hbc.mono hbl.size)
      clear hbc
      clear ckN lkN ckY lkY
      have ckN := kN.cell
      have lkN := kN.lt
      have ckY := kY.cell
      have lkY := kY.lt
      go_wp2_with fail
      refine (HQ.out _).mono ?_
      rintro e wc6 ⟨rfl, hbc⟩
      replace kY := kY.later hbc
      replace hbl := hbl.trans (hbc.mono hbl.size)
      clear hbc
      clear ckN lkN ckY lkY
      have ckY := kY.cell
      have lkY := kY.lt
      go_wp2_with fail
      refine (lives_any _).mono ?_
      rintro e wc7 ⟨rfl, hbc⟩
      replace kY := kY.later hbc
      replace hbl := hbl.trans (hbc.mono hbl.size)
      clear hbc
      clear ckY lkY
      have ckY := kY.cell
      have lkY := kY.lt
      go_wp2_with fail
      go_ret
      exact ⟨rfl, hbl⟩
  | true =>
    obtain ⟨hr, hsp⟩ : rightB L = true ∧ spanB lo hi = true := by simpa using hrs
    obtain ⟨hok, h1, h8⟩ := rightB_iff.1 hr
    have HR : Hid (∀ w', Below w2.heap.size w2 w' → Calls Tryz.prog 8 #[.slice A2 L.length c2] w' fun e w'' => e = .returned (.bool true) ∧ Below w'.heap.size w' w'') := fun w' h => by have := rStack_any A2 L.length c2 L w' (rL.later h) (by omega); rw [hr] at this; exact this
    have HQ : Hid (∀ w', Calls Tryz.prog 9 #[.agg #[.int .i64 lo, .int .i64 hi], .int .i64 1000000] w' fun e w'' => e = .returned (.bool true) ∧ Below w'.heap.size w' w'') := fun w' => by have := rSpan_any lo hi 1000000 w' (by omega) (by omega); rw [span_same, hsp] at this; exact this
    have HC : Hid (∀ w', Below w2.heap.size w2 w' → _) := fun w' h => count_yes A2 L.length c2 L lo hi w' (rL.later h) hr hsp
    have HY : Hid (∀ w', Below w2.heap.size w2 w' → _) := fun w' h => yield_yes A2 L.length c2 L lo hi w' (rL.later h) hr hsp
    have HK : Hid (∀ w', Below w2.heap.size w2 w' → _) := fun w' h => rChoices_any A2 L.length c2 L w' (rL.later h) hok h8
    have HT : Hid (∀ w', Below w2.heap.size w2 w' → _) := fun w' h => rCount_any lo hi L A2 L.length c2 0 w' (parts_anywhere (rL.later h)) hok h8 hcap (by omega) (by omega)
    rw [cnt_all] at HT
    have ha := few_choices hr HMOST.out
    rw [← wid_all] at ha
    have hqa := goodN_le lo hi (gapsL L)
    have ha0 : 0 < (gapsL L).length := by rw [wid_all]; exact widN_pos hok
    generalize gapsL L = G at *
    obtain ⟨q, hq⟩ : ∃ q, goodN lo hi G = q := ⟨_, rfl⟩
    obtain ⟨a, haa⟩ : ∃ a, G.length = a := ⟨_, rfl⟩
    rw [hq, haa] at HC HY hqa
    rw [hq] at HT
    rw [haa] at HK ha ha0
    have HM : Hid (∀ w', _) := fun w' => makeZ_any q a w' (by omega) (by omega) ha0
    unfold fracV at HY
    unfold FracZ at HM
    generalize q / q.gcd a = fq at *
    generalize a / q.gcd a = fa at *
    have d1 : ((q : Int) == (q : Int)) = true := by simp
    have d2 : ((a : Int) == (a : Int)) = true := by simp
    clear hrs hr rL hok h1 hsp hq haa hqa ha ha0 HMOST hl9 hcap h8
    have ckN := kN.cell
    have lkN := kN.lt
    go_wp2_with fail
    refine (HC.out _ hbf).mono ?_
    rintro e wc8 ⟨rfl, hbc⟩
    replace kN := kN.later hbc
    replace hbf := hbf.trans (hbc.mono hbf.size)
    replace hbl := hbl.trans (hbc.mono hbl.size)
    clear hbc
    clear ckN lkN
    have ckN := kN.cell
    have lkN := kN.lt
    go_wp2_with fail
    refine (HY.out _ hbf).mono ?_
    rintro e wc9 ⟨rfl, hbc⟩
    replace kN := kN.later hbc
    replace hbf := hbf.trans (hbc.mono hbf.size)
    replace hbl := hbl.trans (hbc.mono hbl.size)
    clear hbc
    clear ckN lkN
    have hbn : Below wc9.heap.size wc9 (wc9.alloc (.cells #[.int .i64 (fq : Int), .int .i64 (fa : Int)] 30)) := (Below.refl _ _).alloc (Nat.le_refl _) _
    have kY := Blk.new wc9 30 #[.int .i64 (fq : Int), .int .i64 (fa : Int)]
    replace kN := kN.later hbn
    replace hbf := hbf.trans (hbn.mono hbf.size)
    replace hbl := hbl.trans (hbn.mono hbl.size)
    go_upto_region 4 with fail
    have HALL := And.intro kY (And.intro kN (And.intro hbf hbl))
    clear hbn kY kN hbf hbl
    revert HALL
    generalize wc9.alloc (.cells #[.int .i64 (fq : Int), .int .i64 (fa : Int)] 30) = wy
    generalize wc9.heap.size = gY
    intro HALL
    obtain ⟨kY, kN, hbf, hbl⟩ := HALL
    have ckN := kN.cell
    have lkN := kN.lt
    have ckY := kY.cell
    have lkY := kY.lt
    go_wp2_with fail
    refine (HR.out _ hbf).mono ?_
    rintro e wc10 ⟨rfl, hbc⟩
    replace kN := kN.later hbc
    replace kY := kY.later hbc
    replace hbf := hbf.trans (hbc.mono hbf.size)
    replace hbl := hbl.trans (hbc.mono hbl.size)
    clear hbc
    clear ckN lkN ckY lkY
    have ckN := kN.cell
    have lkN := kN.lt
    have ckY := kY.cell
    have lkY := kY.lt
    go_wp2_with fail
    refine (HQ.out _).mono ?_
    rintro e wc11 ⟨rfl, hbc⟩
    replace kN := kN.later hbc
    replace kY := kY.later hbc
    replace hbf := hbf.trans (hbc.mono hbf.size)
    replace hbl := hbl.trans (hbc.mono hbl.size)
    clear hbc
    clear ckN lkN ckY lkY
    have ckN := kN.cell
    have lkN := kN.lt
    have ckY := kY.cell
    have lkY := kY.lt
    go_wp2_with fail
    refine (HT.out _ hbf).mono ?_
    rintro e wc12 ⟨rfl, hbc⟩
    replace kN := kN.later hbc
    replace kY := kY.later hbc
    replace hbf := hbf.trans (hbc.mono hbf.size)
    replace hbl := hbl.trans (hbc.mono hbl.size)
    clear hbc
    clear ckN lkN ckY lkY
    have ckN := kN.cell
    have lkN := kN.lt
    have ckY := kY.cell
    have lkY := kY.lt
    go_wp2_with fail
    refine (HK.out _ hbf).mono ?_
    rintro e wc13 ⟨rfl, hbc⟩
    replace kN := kN.later hbc
    replace kY := kY.later hbc
    replace hbf := hbf.trans (hbc.mono hbf.size)
    replace hbl := hbl.trans (hbc.mono hbl.size)
    clear hbc
    clear ckN lkN ckY lkY
    have ckN := kN.cell
    have lkN := kN.lt
    have ckY := kY.cell
    have lkY := kY.lt
    go_wp2_with fail
    refine (HM.out _).mono ?_
    rintro e wc14 ⟨rfl, hbc⟩
    replace kN := kN.later hbc
    replace kY := kY.later hbc
    replace hbf := hbf.trans (hbc.mono hbf.size)
    replace hbl := hbl.trans (hbc.mono hbl.size)
    clear hbc
    clear ckN lkN ckY lkY
    have hbn : Below wc14.heap.size wc14 (wc14.alloc (.cells #[.int .i64 (fq : Int), .int .i64 (fa : Int)] 30)) := (Below.refl _ _).alloc (Nat.le_refl _) _
    have kZ := Blk.new wc14 30 #[.int .i64 (fq : Int), .int .i64 (fa : Int)]
    replace kY := kY.later hbn
    replace hbf := hbf.trans (hbn.mono hbf.size)
    replace hbl := hbl.trans (hbn.mono hbl.size)
    go_upto_region 8 with fail
    have HALL := And.intro kZ (And.intro kY (And.intro hbf hbl))
    clear hbn kY kZ kN hbf hbl
    revert HALL
    generalize wc14.alloc (.cells #[.int .i64 (fq : Int), .int .i64 (fa : Int)] 30) = wz
    generalize wc14.heap.size = gZ
    intro HALL
    obtain ⟨kZ, kY, hbf, hbl⟩ := HALL
    have ckY := kY.cell
    have lkY := kY.lt
    have ckZ := kZ.cell
    have lkZ := kZ.lt
    go_wp2_with fail
    refine (HK.out _ hbf).mono ?_
    rintro e wc15 ⟨rfl, hbc⟩
    replace kY := kY.later hbc
    replace kZ := kZ.later hbc
    replace hbl := hbl.trans (hbc.mono hbl.size)
    clear hbc
    clear ckY lkY ckZ lkZ
    have ckY := kY.cell
    have lkY := kY.lt
    have ckZ := kZ.cell
    have lkZ := kZ.lt
    go_wp2_with fail
    refine (lives_any _).mono ?_
    rintro e wc16 ⟨rfl, hbc⟩
    replace kY := kY.later hbc
    replace kZ := kZ.later hbc
    replace hbl := hbl.trans (hbc.mono hbl.size)
    clear hbc
    clear ckY lkY ckZ lkZ
    have ckY := kY.cell
    have lkY := kY.lt
    have ckZ := kZ.cell
    have lkZ := kZ.lt
    go_wp2_with fail
    go_ret
    exact ⟨rfl, hbl⟩
end Go.Proofs.YtpklcjbdmikbdaaGreat.fitCounts
namespace Go.Proofs.YtpklcjbdmikbdaaGreat.fitCounts
open Go.ChangeShapes Go.WideShapes Go.ChangeAt Go.RowKit

set_option maxHeartbeats 2000000 in
set_option maxHeartbeats 4000000 in
set_option maxRecDepth 100000 in
theorem lifted (os : Os) (started : os.Started) (H : Type) (enc : TypeId × Value → H) :
    ReturnsInHanded {} Tryz.checked os 3 .any (Rows.fitCountsSpec.pre6 enc Tryz.prog Tryz.f3 Rows.fitCountsRow.domain false) (Rows.fitCountsSpec.post enc Tryz.prog Tryz.f3 false true false false) := by
  refine returnsInHanded_of_change (C := Tryz.checked) Tryz.own started (by kernel_rfl) Tryz.func3
    (ChangeSpec.witness6 (enc := enc) (C := Tryz.checked) false ⟨#[], #[.slice none 0 0, .agg #[.int .i64 0, .int .i64 0]], []⟩ 8 (by kernel_rfl) (by kernel_rfl) (by kernel_rfl) (by kernel_rfl)) ?_
  intro W base args ds gs before hval0 hW hcnd _
  have hval : ∀ (j : Nat) t v, Tryz.f3.params[j]? = some t → args[j]? = some v → Value.okWide Tryz.prog W .any base t v := hval0
  have hW' := hW
  obtain ⟨p, q, hA0, hV, rfl, hfz, hnd⟩ := hW
  have hA : DataW.TrodAll enc Tryz.prog W 0 (fun _ => true) true Tryz.f3.params.toList args.toList ds p := hA0
  rw [Tryz.params3] at hA hval
  obtain ⟨v0, vs0, d0, ds0, p0, q0, hargs, rfl, rfl, h0, r0⟩ := trodAll_cons hA
  obtain ⟨v1, vs1, d1, ds1, p1, q1, rfl, rfl, rfl, h1, r1⟩ := trodAll_cons r0
  obtain ⟨rfl, rfl, rfl⟩ := trodAll_nil r1
  obtain rfl : args = #[v0, v1] := by cases args; simp_all
  obtain ⟨rfl, rfl⟩ := trodVars_none hV
  obtain ⟨A0, n0, c0, l0, rfl, x0, y0, u0⟩ := open_R (hval 0 22 v0 rfl rfl) h0
  obtain ⟨a1, b1, rfl⟩ := open_G (hval 1 24 v1 rfl rfl) h1
  refine (walk A0 n0 c0 a1 b1 l0 W x0 y0 u0).mono fun e W' ⟨he, hb⟩ => ?_
  exact ⟨_, he, law_post rfl (by kernel_rfl) (by kernel_rfl) hW' rfl rfl rfl hb⟩

set_option maxHeartbeats 4000000 in
set_option maxRecDepth 100000 in
theorem facts : joinedFacts Tryz.prog 3 Tryz.f3 Rows.fitCountsSpec Rows.fitCountsRow = true := by
  unfold joinedFacts
  repeat' (with_reducible refine and_t ?_ ?_)
  all_goals first
    | with_reducible exact Tryz.enters
    | (rw [Tryz.finals]; as_aux_lemma => kernel_rfl)
    | (rw [Tryz.made]; as_aux_lemma => kernel_rfl)
    | (as_aux_lemma => kernel_rfl)

theorem proved : Rows.FitCountsSaid :=
  OpenClaim.holds_of_wide 3 Tryz.f3 rfl rfl rfl rfl rfl rfl rfl ⟨rfl, rfl, rfl, rfl, rfl⟩ rfl rfl rfl rfl rfl (by as_aux_lemma => kernel_rfl) Tryz.func3 facts
    (of_decide_eq_true (by as_aux_lemma => kernel_rfl)) (by unfold Func.isWrapper; rw [if_neg (of_decide_eq_false (by kernel_rfl))]; exact ⟨rfl, rfl⟩)
    (fun os started H enc _ => lifted os started H enc)
#print axioms proved
end Go.Proofs.YtpklcjbdmikbdaaGreat.fitCounts
