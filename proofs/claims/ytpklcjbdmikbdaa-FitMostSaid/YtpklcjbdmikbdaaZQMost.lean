/-
Proved: FitMost: no pairing has more shafts than Pair's, and none with as many is lexicographically less.
  Conditions: none.
-/
import Derived.Test.YtpklcjbdmikbdaaGQ
import Derived.Test.YtpklcjbdmikbdaaGO
namespace Go.Proofs.Ytpklcjbdmikbdaa.fitMost
open Go.RowKit

set_option maxRecDepth 100000 in
set_option maxHeartbeats 16000000 in
theorem walk (A B : Option Addr) (n c m d : Nat) (lo hi : Int) (P : Option Addr) (q e0 : Nat) (s t o : List Int) (w : World) (hsA : RowI w A n s) (hcA : n ≤ c) (hnA : A = none → c = 0) (hsB : RowI w B m t) (hcB : m ≤ d) (hnB : B = none → d = 0) (hsP : RowI w P q o) (hcP : q ≤ e0) (hnP : P = none → e0 = 0) :
    Calls Try.prog 7 #[.agg #[.slice A n c, .slice B m d, .int .i64 lo, .int .i64 hi], .slice P q e0] w fun e w' => e = .returned (.bool true) ∧ Below w.heap.size w w' := by
  have hb0 : Below w.heap.size w (w.alloc (.cells #[.slice A n c, .slice B m d, .int .i64 lo, .int .i64 hi] 37)) := (Below.refl _ _).alloc (Nat.le_refl _) _
  have kY := Blk.new w 37 #[.slice A n c, .slice B m d, .int .i64 lo, .int .i64 hi]
  have hSA : SrcI w A n c s := ⟨hsA, hcA, hnA⟩
  have hSB : SrcI w B m d t := ⟨hsB, hcB, hnB⟩
  have HF := Lib.hid (few_any A B n c m d 40 s t lo hi _ (hSA.later hb0) (hSB.later hb0) (by omega))
  have HO := Lib.hid (show SrcI w P q e0 o from ⟨hsP, hcP, hnP⟩)
  have cY := kY.cell
  have lY := kY.lt
  clear hsA hcA hnA hsB hcB hnB hSA hSB hsP hcP hnP
  go_enter Try.func7, Try.ntmps7
  go_wp2_with fail
  refine HF.out.mono ?_
  rintro e w1 ⟨v1, v2, rfl, hown1, hown2, hb1⟩
  obtain ⟨A1, c1, rfl⟩ := own_slice hown1
  obtain ⟨B1, d1, rfl⟩ := own_slice hown2
  have hb2 := hb0.trans (hb1.mono hb0.size)
  have hS65 := fewL_len s 40
  have hT65 := fewL_len t 40
  generalize fewL s 40 = S at *
  generalize fewL t 40 = T at *
  have rS1 := own_rowH hown1
  have rT1 := own_rowH hown2
  have kX := Blk.new w1 37 #[.slice A1 S.length c1, .slice B1 T.length d1, .int .i64 lo, .int .i64 hi]
  have hb3 : Below w1.heap.size w1 (w1.alloc (.cells #[.slice A1 S.length c1, .slice B1 T.length d1, .int .i64 lo, .int .i64 hi] 37)) := (Below.refl _ _).alloc (Nat.le_refl _) _
  have rS := rS1.later hb3
  have rT := rT1.later hb3
  have hb := hb2.trans (hb3.mono hb2.size)
  clear HF cY lY hb0 kY hown1 hown2 hb1 hb2 hb3 rS1 rT1
  go_upto_region 2 with fail
  revert kX rS rT hb
  generalize w1.alloc (.cells #[.slice A1 S.length c1, .slice B1 T.length d1, .int .i64 lo, .int .i64 hi] 37) = w2
  generalize w1.heap.size = X
  intro kX rS rT hb
  have cX := kX.cell
  have lX := kX.lt
  have HV := Lib.hid fun w' h => valid_shop A1 B1 S.length c1 T.length d1 S T lo hi w' (rS.later (w' := w') h).rowI (rT.later h).rowI (by omega) (by omega)
  cases hpb : piecesB S T lo hi with
  | false =>
    have HP := Lib.hid (pair_no A1 B1 c1 d1 S T lo hi w2 rS rT (by omega) (by omega) hpb)
    rw [hpb] at HV
    clear hpb
    go_wp2_with fail
    refine HP.out.mono ?_
    rintro e w3 ⟨rfl, hb4⟩
    have kX3 := kX.later hb4
    have cX3 := kX3.cell
    have lX3 := kX3.lt
    have hb5 := hb.trans (hb4.mono hb.size)
    clear HP cX lX
    go_wp2_with fail
    refine (HV.out _ hb4).mono ?_
    rintro e w4 ⟨rfl, hb6⟩
    have hb7 := hb5.trans (hb6.mono hb5.size)
    clear cX3 lX3 HV hb4 hb6
    go_wp2_with fail
    refine (lives_any _).mono ?_
    rintro e w5 ⟨rfl, hb8⟩
    go_wp2_with fail
    go_ret
    exact ⟨rfl, hb7.trans (hb8.mono hb7.size)⟩
  | true =>
    have HP := Lib.hid (pair_yes A1 B1 c1 d1 S T lo hi w2 rS rT hpb)
    rw [hpb] at HV
    obtain ⟨hs, hh, l1, l2, _⟩ := piecesB_iff.1 hpb
    have HS := Lib.hid hs
    have HH := Lib.hid hh
    clear hpb hs hh
    go_wp2_with fail
    refine HP.out.mono ?_
    rintro e w3 ⟨R, cr, nn, left, tt, BB, rfl, hR, _, hpt, hmx, hb4⟩
    have HPT := Lib.hid hpt
    have HMX := Lib.hid hmx
    have hlen := hpt.len
    have hR3 := RowH.of_row hR hlen
    have HLen := Lib.hid hlen
    have kX3 := kX.later hb4
    have cX3 := kX3.cell
    have lX3 := kX3.lt
    have rS3 := rS.later hb4
    have rT3 := rT.later hb4
    have hb5 := hb.trans (hb4.mono hb.size)
    clear HP cX lX hpt hmx hR hlen kX rS rT
    go_wp2_with fail
    refine (HV.out _ hb4).mono ?_
    rintro e w4 ⟨rfl, hb6⟩
    have kX4 := kX3.later hb6
    have rS4 := rS3.later hb6
    have rT4 := rT3.later hb6
    have hR4 := hR3.later hb6
    have hb7 := hb5.trans (hb6.mono hb5.size)
    have hO := HO.out.later hb7
    have HC := Lib.hid (cut_any P q e0 64 o w4 hO.row hO.le hO.nil (by omega))
    clear cX3 lX3 HV hb4 hb6 kX3 rS3 rT3 hR3 hb5 hO HO
    go_wp2_with fail
    refine HC.out.mono ?_
    rintro e w5 ⟨vo, rfl, hown, hb8⟩
    obtain ⟨O1, co, rfl⟩ := own_slice hown
    have hol : (o.take 64).length ≤ 64 := by rw [List.length_take]; omega
    generalize o.take 64 = o2 at *
    have rO := own_rowH hown
    have kX5 := kX4.later hb8
    have cX5 := kX5.cell
    have lX5 := kX5.lt
    have rS5 := rS4.later hb8
    have rT5 := rT4.later hb8
    have hR5 := hR4.later hb8
    have hb9 := hb7.trans (hb8.mono hb7.size)
    have HG := Lib.hid (rPairing_any A1 B1 O1 S.length c1 T.length d1 o2.length co S T o2 lo hi w5 rS5 rT5 rO HS.out HH.out (by omega) (by omega) (by omega))
    clear HC hown hb7 hb8 kX4 rS4 rT4 hR4
    go_wp2_with fail
    refine HG.out.mono ?_
    rintro e w6 ⟨hcase, hb10⟩
    have kX6 := kX5.later hb10
    have cX6 := kX6.cell
    have lX6 := kX6.lt
    have rS6 := rS5.later hb10
    have rT6 := rT5.later hb10
    have hR6 := hR5.later hb10
    have rO6 := rO.later hb10
    have hb11 := hb9.trans (hb10.mono hb9.size)
    have HG2 := Lib.hid (rPairing_any A1 B1 (some ⟨R, 0, none⟩) S.length c1 T.length d1 S.length cr S T tt lo hi w6 rS6 rT6 hR6 HS.out HH.out (by omega) (by omega) (by omega))
    have hok := HPT.out.ok
    have hcnt := HPT.out.cnt_
    have hmx0 := HPT.out.mx HMX.out
    have hleft : left = 0 := hmx0.uniq (Mx.none (fun x k hx _ hF => by have := hF.1; omega) rfl)
    have HG3 : Hid (∀ e w', PrgR S T tt lo hi w6 e w' → e = .returned (.int .i64 (nn : Int)) ∧ Below w6.heap.size w6 w') := by
      rintro e w' ⟨h1 | h1, h2⟩
      · exact ⟨by rw [h1.2, show cnt tt = nn by omega], h2⟩
      · exact absurd ⟨HLen.out, hok⟩ h1.1
    clear HG cX5 lX5 kX5 rS5 rT5 hR5 rO hb9 hb10 hcnt hmx0 hleft hok
    have key : ∀ v : Int, e = .returned (.int .i64 v) → (v < (nn : Int) ∨ (v = (nn : Int) ∧ lessL o2 tt = false)) → e = .returned (.int .i64 v) ∧ (v < (nn : Int) ∨ (v = (nn : Int) ∧ lessL o2 tt = false)) := fun v h1 h2 => ⟨h1, h2⟩
    obtain ⟨v, rfl, hv⟩ : ∃ v : Int, e = .returned (.int .i64 v) ∧ (v < (nn : Int) ∨ (v = (nn : Int) ∧ lessL o2 tt = false)) := by
      rcases hcase with ⟨⟨h1, h2⟩, h3⟩ | ⟨_, h3⟩
      · have hle := h2.le HMX.out
        rcases Nat.lt_or_ge (cnt o2) nn with h4 | h4
        · exact ⟨_, h3, .inl (by omega)⟩
        · have h5 : cnt o2 = nn := by omega
          have h6 := HPT.out.least HMX.out h2 h5 (by rw [h1]; exact Nat.le_refl _)
          rw [← h1, List.take_length] at h6
          exact ⟨_, h3, .inr ⟨by omega, h6⟩⟩
      · exact ⟨-1, h3, .inl (by omega)⟩
    clear key hcase
    have hnn64 : nn ≤ 64 := by
      have h1 := HPT.out.cnt_
      have h2 : cnt tt ≤ tt.length := List.length_filter_le _ _
      have h3 := HMX.out.uniq (HMX.out)
      have h4 := (HPT.out.mx HMX.out).uniq (Mx.none (F := fitP S T lo hi) (A := fun x => S.length ≤ x) (B := BB) (fun x k hx _ hF => by have := hF.1; omega) rfl)
      have := HLen.out
      omega
    go_wp2_with fail
    refine (HG2.out.mono HG3.out).mono ?_
    rintro e w7 ⟨rfl, hb12⟩
    have hR7 := hR6.later hb12
    have rO7 := rO6.later hb12
    have hb13 := hb11.trans (hb12.mono hb11.size)
    clear cX6 lX6 kX6 rS6 rT6 hR6 rO6 hb11 hb12 HG2 HG3
    have hnn : ((nn : Int) != (nn : Int)) = false := by simp
    go_wp2_with fail
    refine (lives_any _).mono ?_
    rintro e w8 ⟨rfl, hb14⟩
    have hR8 := hR7.later hb14
    have rO8 := rO7.later hb14
    have hb15 := hb13.trans (hb14.mono hb13.size)
    have HL := Lib.hid (rLess_any O1 (some ⟨R, 0, none⟩) o2.length co S.length cr o2 tt w8 rO8 hR8 (by omega) (by omega))
    clear hR7 rO7 hb13 hb14
    rcases hv with hv | ⟨hv, hle⟩
    · have hvd : decide (v < (nn : Int)) = true := by simpa using hv
      clear hR8 rO8
      go_wp2_with fail
      go_ret
      exact ⟨rfl, hb15⟩
    · have hvd : decide (v < (nn : Int)) = false := by simp; omega
      have hve : (v == (nn : Int)) = true := by simpa using hv
      rw [hle] at HL
      clear hv hle hR8 rO8
      go_wp2_with fail
      refine HL.out.mono ?_
      rintro e w9 ⟨rfl, hb16⟩
      go_wp2_with fail
      go_ret
      exact ⟨rfl, hb15.trans (hb16.mono hb15.size)⟩
end Go.Proofs.Ytpklcjbdmikbdaa.fitMost
namespace Go.Proofs.Ytpklcjbdmikbdaa.fitMost
open Go.ChangeShapes Go.WideShapes Go.ChangeAt Go.RowKit


set_option maxHeartbeats 2000000 in
set_option maxHeartbeats 4000000 in
set_option maxRecDepth 100000 in
theorem lifted (os : Os) (started : os.Started) (H : Type) (enc : TypeId × Value → H) :
    ReturnsInHanded {} Try.checked os 7 .any (Rows.fitMostSpec.pre6 enc Try.prog Try.f7 Rows.fitMostRow.domain false) (Rows.fitMostSpec.post enc Try.prog Try.f7 false true false false) := by
  refine returnsInHanded_of_change (C := Try.checked) Try.own started (by kernel_rfl) Try.func7
    (ChangeSpec.witness6 (enc := enc) (C := Try.checked) false ⟨#[], #[.agg #[.slice none 0 0, .slice none 0 0, .int .i64 0, .int .i64 0], .slice none 0 0], []⟩ 8 (by kernel_rfl) (by kernel_rfl) (by kernel_rfl) (by kernel_rfl)) ?_
  intro W base args ds gs before hval0 hW hcnd _
  have hval : ∀ (j : Nat) t v, Try.f7.params[j]? = some t → args[j]? = some v → Value.okWide Try.prog W .any base t v := hval0
  have hW' := hW
  obtain ⟨p, q, hA0, hV, rfl, hfz, hnd⟩ := hW
  have hA : DataW.TrodAll enc Try.prog W 0 (fun _ => true) true Try.f7.params.toList args.toList ds p := hA0
  rw [Try.params7] at hA hval
  obtain ⟨v0, vs0, d0, ds0, p0, q0, hargs, rfl, rfl, h0, r0⟩ := trodAll_cons hA
  obtain ⟨v1, vs1, d1, ds1, p1, q1, rfl, rfl, rfl, h1, r1⟩ := trodAll_cons r0
  obtain ⟨rfl, rfl, rfl⟩ := trodAll_nil r1
  obtain rfl : args = #[v0, v1] := by cases args; simp_all
  obtain ⟨rfl, rfl⟩ := trodVars_none hV
  obtain ⟨A0, B0, n0, c0, m0, e0, s0, t0, lo0, hi0, rfl, x0, y0, u0, x0b, y0b, u0b⟩ := open_Q (hval 0 37 v0 rfl rfl) h0
  obtain ⟨A1, n1, c1, l1, rfl, x1, y1, z1, u1⟩ := open_I (hval 1 23 v1 rfl rfl) h1
  refine (walk A0 B0 n0 c0 m0 e0 lo0 hi0 A1 n1 c1 s0 t0 l1 W x0 y0 u0 x0b y0b u0b x1 y1 u1).mono fun e W' ⟨he, hb⟩ => ?_
  exact ⟨_, he, law_post rfl (by kernel_rfl) (by kernel_rfl) hW' rfl rfl rfl hb⟩

set_option maxHeartbeats 4000000 in
set_option maxRecDepth 100000 in
theorem facts : joinedFacts Try.prog 7 Try.f7 Rows.fitMostSpec Rows.fitMostRow = true := by
  unfold joinedFacts
  repeat' (with_reducible refine and_t ?_ ?_)
  all_goals first
    | with_reducible exact Try.enters
    | (rw [Try.finals]; as_aux_lemma => kernel_rfl)
    | (rw [Try.made]; as_aux_lemma => kernel_rfl)
    | (as_aux_lemma => kernel_rfl)

theorem proved : Rows.FitMostSaid :=
  OpenClaim.holds_of_wide 7 Try.f7 rfl rfl rfl rfl rfl rfl rfl ⟨rfl, rfl, rfl, rfl, rfl⟩ rfl rfl rfl rfl rfl (by as_aux_lemma => kernel_rfl) Try.func7 facts
    (of_decide_eq_true (by as_aux_lemma => kernel_rfl)) (by unfold Func.isWrapper; rw [if_neg (of_decide_eq_false (by kernel_rfl))]; exact ⟨rfl, rfl⟩)
    (fun os started H enc _ => lifted os started H enc)
#print axioms proved
end Go.Proofs.Ytpklcjbdmikbdaa.fitMost
