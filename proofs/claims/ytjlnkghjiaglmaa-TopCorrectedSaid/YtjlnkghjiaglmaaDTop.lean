/-
  Proved: TopCorrected: a perpetual calendar that has run past the year 2100 and shows a wrong date is put right by one midnight less or by its correctors.
  Conditions: none.
-/
import Derived.Test.YtjlnkghjiaglmaaOpens
import Derived.Test.YtjlnkghjiaglmaaTopS
import Derived.Test.YtjlnkghjiaglmaaTopD
import Derived.Test.YtjlnkghjiaglmaaTopM
import Derived.Test.YtjlnkghjiaglmaaLives
namespace Go.Proofs.Ytjlnkghjiaglmaa.topCorrected
open Go.ChangeShapes Go.WideShapes Go.ChangeAt Go.RowKit


theorem often_bd58 {f t : Fc} (h : f.ok) (ht : t.ok) (hD : (f.reached t).D ≤ t.D) (i : Nat) (hi : i < 4) : 0 ≤ (Fc.often f t).getD i 0 ∧ (Fc.often f t).getD i 0 ≤ 58 := by
  have b0 := Fc.far_bd f t
  have b2 : 0 ≤ f.farW t ∧ f.farW t ≤ 6 := by unfold Fc.farW; omega
  have b3 : 0 ≤ f.farO t ∧ f.farO t ≤ 58 := by unfold Fc.farO; omega
  have b4 := (Fc.reached_ok h t).2.2.2.2.1
  have b5 := (Fc.lst_bd t).2
  have b6 := ht.2.2.2.2.2.1
  match i, hi with
  | 0, _ => show 0 ≤ f.far t ∧ f.far t ≤ 58; omega
  | 1, _ => show 0 ≤ t.D - (f.reached t).D ∧ t.D - (f.reached t).D ≤ 58; omega
  | 2, _ => show 0 ≤ f.farW t ∧ f.farW t ≤ 58; omega
  | 3, _ => show 0 ≤ f.farO t ∧ f.farO t ≤ 58; omega

theorem shows_then {y m d : Int} {c b : Nat} (hd : Cal.ok y m d) (hn : Cal.num y m d = 766644 - (c : Int)) (hc : c < 9000) (hb : b < 3000) :
    (Fc.nights (c + b) (Fc.set y m d 7)).showsB (Cal.days (c + b) (y, m, d)).1 (Cal.days (c + b) (y, m, d)).2.1 (Cal.days (c + b) (y, m, d)).2.2 = decide ((b : Int) < 59) := by
  have hk : Cal.num y m d + ((c + b : Nat) : Int) ≤ 3652058 := by omega
  have hi := Fc.bad_iff (o := 7) hd (c + b) hk
  have hB : Fc.badB (Fc.set y m d 7) (y, m, d) (c + b) = !(Fc.nights (c + b) (Fc.set y m d 7)).showsB (Cal.days (c + b) (y, m, d)).1 (Cal.days (c + b) (y, m, d)).2.1 (Cal.days (c + b) (y, m, d)).2.2 := rfl
  rcases face_then hd hn hc hb with ⟨h1, hs⟩ | ⟨h1, e1, e2, e3⟩ | ⟨h1, j, ej, hs⟩
  · have := hi.2 ⟨hs.1, hs.2.1⟩
    rw [hB] at this
    rw [decide_eq_true (by omega)]
    simpa using this
  · have hne : Fc.badB (Fc.set y m d 7) (y, m, d) (c + b) ≠ false := fun h => by
      have := (hi.1 h).2
      rw [e2, e3] at this
      simp at this
    rw [hB] at hne
    rw [decide_eq_false (by omega)]
    simpa using hne
  · have hj : Cal.num y m d + (j : Int) ≤ 3652058 := by omega
    have hok := (Cal.days_ok (x := (y, m, d)) hd j hj).1
    have hne : Fc.badB (Fc.set y m d 7) (y, m, d) (c + b) ≠ false := fun h => by
      have q := hi.1 h
      have e : Cal.days (c + b) (y, m, d) = nextOf (Cal.days j (y, m, d)).1 (Cal.days j (y, m, d)).2.1 (Cal.days j (y, m, d)).2.2 := by rw [ej]; rfl
      rw [hs.1, hs.2.1, e] at q
      exact next_ne _ _ _ hok ⟨q.1.symm, q.2.symm⟩
    rw [hB] at hne
    rw [decide_eq_false (by omega)]
    simpa using hne

theorem month_then {y m d y' m' d' : Int} {c b : Nat} (hd : Cal.ok y m d) (hn : Cal.num y m d = 766644 - (c : Int)) (hc : c < 9000) (hb : b < 3000) (e : Cal.days (c + b) (y, m, d) = (y', m', d'))
    (hM : (Fc.nights (c + b) (Fc.set y m d 7)).M = (Fc.set y' m' d' 7).M) : (Fc.nights (c + b) (Fc.set y m d 7)).L = (Fc.set y' m' d' 7).L := by
  have eM : (Fc.set y' m' d' 7).M = m' := rfl
  have eL : (Fc.set y' m' d' 7).L = y' % 4 := rfl
  rw [eM] at hM
  rw [eL]
  rcases face_then hd hn hc hb with ⟨h1, hs⟩ | ⟨h1, e1, e2, e3⟩ | ⟨h1, j, ej, hs⟩
  · have := hs.2.2
    rw [e] at this
    exact this
  · rw [e] at e3
    rw [e2] at hM
    simp at e3
    omega
  · have hj : Cal.num y m d + (j : Int) ≤ 3652058 := by omega
    have hok := (Cal.days_ok (x := (y, m, d)) hd j hj).1
    have en : (y', m', d') = nextOf (Cal.days j (y, m, d)).1 (Cal.days j (y, m, d)).2.1 (Cal.days j (y, m, d)).2.2 := by rw [← e, ej]; rfl
    have h3 := next_month _ _ _ hok (by rw [← en, ← hs.2.1]; exact hM.symm)
    rw [← en] at h3
    rw [hs.2.2, ← h3]

theorem walk (nights more : Int) (w : World) :
    Calls Try.prog 15 #[.int .i64 nights, .int .i64 more] w fun e w' => e = .returned (.bool true) ∧ Below w.heap.size w w' := by
  have F0 := Lib.hid fun w => Lib.hid (tfold_any nights 20000 w (by omega) (by omega))
  have F1 := Lib.hid fun w => Lib.hid (tfold_any more 3000 w (by omega) (by omega))
  have F2 := Lib.hid fun w => Lib.hid (tfold_any (nights % 20000) 9000 w (by omega) (by omega))
  have a1 : 0 ≤ nights % 20000 := by omega
  have a2 : nights % 20000 < 20000 := by omega
  have b1 : 0 ≤ more % 3000 := by omega
  have b2 : more % 3000 < 3000 := by omega
  have c1 : 0 ≤ nights % 20000 % 9000 := by omega
  have c2 : nights % 20000 % 9000 < 9000 := by omega
  generalize nights % 20000 % 9000 = c at *
  generalize nights % 20000 = a at *
  generalize more % 3000 = b at *
  obtain ⟨c, rfl⟩ := Int.eq_ofNat_of_zero_le c1
  obtain ⟨b, rfl⟩ := Int.eq_ofNat_of_zero_le b1
  have hc : c < 9000 := by omega
  have hb : b < 3000 := by omega
  obtain ⟨y, m, d, hd, hn⟩ := Cal.exists_date (766644 - (c : Int)) (by omega) (by omega)
  have D1 := Lib.hid fun w => Lib.hid (Date_yes y m d w hd)
  rw [hn] at D1
  have S1 := Lib.hid fun w => Lib.hid (Set_yes y m d 7 w hd (by omega) (by omega))
  have hok := set_ok' (o := 7) hd (by omega) (by omega)
  have MN := Lib.hid fun w => Lib.hid (Midnight_yes (Fc.set y m d 7) ((c : Int) + b) w hok (by omega) (by omega))
  rw [show ((c : Int) + b).toNat = c + b by omega] at MN
  have hh := Fc.nights_ok hok (c + b)
  have hk := Cal.days_ok (x := (y, m, d)) hd (c + b) (by show Cal.num y m d + _ ≤ _; omega)
  have hS := shows_then hd hn hc hb
  obtain ⟨y', m', d', e⟩ : ∃ y' m' d', Cal.days (c + b) (y, m, d) = (y', m', d') := ⟨_, _, _, rfl⟩
  have hML := month_then hd hn hc hb e
  rw [e] at hk hS
  have hN : Cal.num y' m' d' = 766644 + (b : Int) := by
    have h2 : Cal.num y' m' d' = Cal.num y m d + ((c + b : Nat) : Int) := hk.2
    omega
  have D2 := Lib.hid fun w => Lib.hid (Date_yes y' m' d' w hk.1)
  rw [hN] at D2
  have S2 := Lib.hid fun w => Lib.hid (Set_yes y' m' d' 7 w hk.1 (by omega) (by omega))
  have ht := set_ok' (o := 7) hk.1 (by omega) (by omega)
  have D0 := Lib.hid fun w => Lib.hid (Date_yes 2100 1 1 w (by decide))
  rw [num_2100] at D0
  have SH := Lib.hid fun w => Lib.hid (Shows_yes (Fc.nights (c + b) (Fc.set y m d 7)) y' m' d' w hh hk.1)
  rw [hS] at SH
  have SH2 := Lib.hid fun w => Lib.hid (Shows_yes (Fc.set y' m' d' 7) y' m' d' w ht hk.1)
  rw [show (Fc.set y' m' d' 7).showsB y' m' d' = true from decide_eq_true ⟨rfl, rfl, rfl⟩] at SH2
  simp only at ht S2 SH SH2 D2
  clear hS hk hN
  generalize Fc.nights (c + b) (Fc.set y m d 7) = h at *
  generalize Fc.set y m d 7 = f at *
  generalize Fc.set y' m' d' 7 = t at *
  by_cases hD : t.D < h.D
  · have hg : Fc.ok ⟨1, t.M, t.L, h.W, h.O⟩ := ⟨ht.1, ht.2.1, ht.2.2.1, ht.2.2.2.1, Int.le_refl _, by have := (Fc.lst_bd ⟨1, t.M, t.L, h.W, h.O⟩).1; show 1 ≤ _; omega, hh.2.2.2.2.2.2⟩
    have gE : Hid (Fc.cells ⟨1, t.M, t.L, h.W, h.O⟩ = #[.int .i64 1, .int .i64 t.M, .int .i64 t.L, .int .i64 h.W, .int .i64 h.O]) := rfl
    have g1 : Fc.D ⟨1, t.M, t.L, h.W, h.O⟩ = 1 := rfl
    generalize Fc.mk 1 t.M t.L h.W h.O = g at *
    have hp := Fc.way_of_first ht g1
    have PU := Lib.hid fun w => Lib.hid (Pushes_any g t w hg ht)
    rw [show pushV g t = _ from if_pos hp] at PU
    exact walk_day y m d y' m' d' nights more a b c _ _ _ _ f h t g w F0 F1 F2 D1 S1 MN D2 S2 D0 SH PU SH2 a1 a2 b1 b2 c1 c2 (Fc.stage_4 hg ht hp) (Fc.stage_ok t hg) (often_bd58 hg ht hp) rfl gE (decide_eq_true hD)
  · by_cases hM : h.M = t.M
    · have hp : (h.reached t).D ≤ t.D := by
        have h0 := (Fc.far_zero hh.okM ht.okM).2 ⟨hM, hML hM⟩
        unfold Fc.reached
        rw [h0]
        show h.D ≤ t.D
        omega
      have PU := Lib.hid fun w => Lib.hid (Pushes_any h t w hh ht)
      rw [show pushV h t = _ from if_pos hp] at PU
      exact walk_same y m d y' m' d' nights more a b c _ _ _ _ f h t w F0 F1 F2 D1 S1 MN D2 S2 D0 SH PU SH2 a1 a2 b1 b2 c1 c2 (Fc.stage_4 hh ht hp) (Fc.stage_ok t hh) (often_bd58 hh ht hp) rfl (decide_eq_false hD) (by simp [hM])
    · have hg : Fc.ok ⟨1, t.M, t.L, h.W, h.O⟩ := ⟨ht.1, ht.2.1, ht.2.2.1, ht.2.2.2.1, Int.le_refl _, by have := (Fc.lst_bd ⟨1, t.M, t.L, h.W, h.O⟩).1; show 1 ≤ _; omega, hh.2.2.2.2.2.2⟩
      have gE : Hid (Fc.cells ⟨1, t.M, t.L, h.W, h.O⟩ = #[.int .i64 1, .int .i64 t.M, .int .i64 t.L, .int .i64 h.W, .int .i64 h.O]) := rfl
      have g1 : Fc.D ⟨1, t.M, t.L, h.W, h.O⟩ = 1 := rfl
      generalize Fc.mk 1 t.M t.L h.W h.O = g at *
      have hp := Fc.way_of_first ht g1
      have PU := Lib.hid fun w => Lib.hid (Pushes_any g t w hg ht)
      rw [show pushV g t = _ from if_pos hp] at PU
      exact walk_month y m d y' m' d' nights more a b c _ _ _ _ f h t g w F0 F1 F2 D1 S1 MN D2 S2 D0 SH PU SH2 a1 a2 b1 b2 c1 c2 (Fc.stage_4 hg ht hp) (Fc.stage_ok t hg) (often_bd58 hg ht hp) rfl gE (decide_eq_false hD) (by simp [hM])

set_option maxRecDepth 100000 in
theorem lifted (os : Os) (started : os.Started) (H : Type) (enc : TypeId × Value → H) :
    ReturnsInHanded {} Try.checked os 15 .any (Rows.topCorrectedSpec.pre6 enc Try.prog Try.f15 Rows.topCorrectedRow.domain false) (Rows.topCorrectedSpec.post enc Try.prog Try.f15 false true false false) := by
  refine returnsInHanded_of_change (C := Try.checked) Try.own started (by kernel_rfl) Try.func15
    (ChangeSpec.witness6 (enc := enc) (C := Try.checked) false ⟨#[], #[.int .i64 0, .int .i64 0], []⟩ 8 (by kernel_rfl) (by kernel_rfl) (by kernel_rfl) (by kernel_rfl)) ?_
  intro W base args ds gs before hval0 hW hcnd _
  have hval : ∀ (j : Nat) t v, Try.f15.params[j]? = some t → args[j]? = some v → Value.okWide Try.prog W .any base t v := hval0
  have hW' := hW
  obtain ⟨p, q, hA0, hV, rfl, hfz, hnd⟩ := hW
  have hA : DataW.TrodAll enc Try.prog W 0 (fun _ => true) true Try.f15.params.toList args.toList ds p := hA0
  rw [Try.params15] at hA hval
  obtain ⟨v0, vs0, d0, ds0, p0, q0, hargs, rfl, rfl, h0, r0⟩ := trodAll_cons hA
  obtain ⟨v1, vs1, d1, ds1, p1, q1, rfl, rfl, rfl, h1, r1⟩ := trodAll_cons r0
  obtain ⟨rfl, rfl, rfl⟩ := trodAll_nil r1
  obtain rfl : args = #[v0, v1] := by cases args; simp_all
  obtain ⟨rfl, rfl⟩ := trodVars_none hV
  obtain ⟨a0, rfl, rfl, rfl, w0⟩ := open_int Try.underlying3 (hval 0 3 v0 rfl rfl) h0
  obtain ⟨a1, rfl, rfl, rfl, w1⟩ := open_int Try.underlying3 (hval 1 3 v1 rfl rfl) h1
  refine (walk a0 a1 W).mono fun e W' ⟨he, hb⟩ => ?_
  exact ⟨_, he, law_post rfl (by kernel_rfl) (by kernel_rfl) hW' rfl rfl rfl hb⟩

set_option maxRecDepth 100000 in
theorem facts : joinedFacts Try.prog 15 Try.f15 Rows.topCorrectedSpec Rows.topCorrectedRow = true := by
  unfold joinedFacts
  repeat' (with_reducible refine and_t ?_ ?_)
  all_goals first
    | with_reducible exact Try.enters
    | (rw [Try.finals]; as_aux_lemma => kernel_rfl)
    | (rw [Try.made]; as_aux_lemma => kernel_rfl)
    | (as_aux_lemma => kernel_rfl)

theorem proved : Rows.TopCorrectedSaid :=
  OpenClaim.holds_of_wide 15 Try.f15 rfl rfl rfl rfl rfl rfl rfl ⟨rfl, rfl, rfl, rfl, rfl⟩ rfl rfl rfl rfl rfl (by as_aux_lemma => kernel_rfl) Try.func15 facts
    (of_decide_eq_true (by as_aux_lemma => kernel_rfl)) (by unfold Func.isWrapper; rw [if_neg (of_decide_eq_false (by kernel_rfl))]; exact ⟨rfl, rfl⟩)
    (fun os started H enc _ => lifted os started H enc)
#print axioms proved
end Go.Proofs.Ytjlnkghjiaglmaa.topCorrected
