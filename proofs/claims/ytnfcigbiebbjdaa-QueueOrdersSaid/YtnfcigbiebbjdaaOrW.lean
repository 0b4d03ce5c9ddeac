/-
  The walk of the law on orders.
  No conditions.
-/
import Derived.Test.YtnfcigbiebbjdaaDue4
namespace Go.Proofs.Ytnfcigbiebbjdaa
open Go.RowKit

theorem few_len2 (x : List Jb) (n q : Nat) (hq : q ≤ 64) : ((x.take (fewN n q)).map cutJ).length ≤ 65 := by
  rw [List.length_map, List.length_take]
  unfold fewN
  split <;> omega
theorem eqb_self3 (x : Int) : (x == x) = true := by simp
theorem neb_self3 (x : Int) : (x != x) = false := by simp
theorem neb_bool (b : Bool) : (b != b) = false := by simp
theorem own_cap {w : World} {base E s : Nat} {A : Option Addr} {n m c : Nat} {xs : List Value} (h : w.ownsRow base E s (.slice A m c) n xs) : m ≤ c := by
  rcases h.2 with ⟨h1, h2⟩ | ⟨g, cap, cur, h1, _, _, h4, _⟩
  · injection h1 with e1 e2 e3; omega
  · injection h1 with e1 e2 e3; omega

set_option maxRecDepth 100000 in
set_option maxHeartbeats 8000000 in
theorem walkOr (A C : Option Addr) (n c p e : Nat) (x : List Jb) (z : List Int) (w : World) (rA : JobsA w A n x) (hc : n ≤ c) (hnil : A = none → c = 0) (rC : RowI w C p z) (hC : p ≤ e) (nC : C = none → e = 0) :
    Calls Try.prog 13 #[.slice A n c, .slice C p e] w fun e w' => e = .returned (.bool true) ∧ Below w.heap.size w w' := by
  have D1 := Lib.hid (fun w1 h1 => cut_any C p e 66 z w1 (rC.later (w' := w1) h1) hC nC (by omega))
  have l3 : (z.take 66).length ≤ 66 := by rw [List.length_take]; omega
  generalize z.take 66 = o at *
  obtain ⟨Q, hQ⟩ : ∃ Q, Q = o.length := ⟨_, rfl⟩
  have HQl := Lib.hid hQ
  rw [← hQ] at l3
  clear hQ rC
  go_enter Try.func13, Try.ntmps13
  go_wp2_with fail
  refine (few_any A n c 64 x w rA hc hnil (by omega)).mono ?_
  rintro e1 w1 ⟨A1, c1, rfl, hJ, hb1⟩
  have hm : ∀ (k : Nat) (j : Jb), ((x.take (fewN n 64)).map cutJ)[k]? = some j → j.after.length ≤ 1000 := fun k j h => cut_after h
  have hfl := few_len2 x n 64 (Nat.le_refl _)
  clear rA hnil
  generalize (x.take (fewN n 64)).map cutJ = js at *
  generalize hN : js.length = N at *
  have HM := Lib.hid hm
  have D2 := Lib.hid (D1.out w1 hb1)
  clear hm D1
  go_wp2_with fail
  refine D2.out.mono ?_
  rintro e2 w2 ⟨v2, rfl, hown2, hb2⟩
  rw [← HQl.out] at hown2
  obtain ⟨A2, c2, rfl⟩ := own_slice hown2
  have hcc := own_cap hown2
  have ho2 := own_rowH hown2
  have hJ2 := hJ.later hb2
  have hw2 := hb1.trans (hb2.mono hb1.size)
  clear D2 hown2 hJ hb1 hb2
  by_cases hv : validB js = true
  case neg =>
    rw [Bool.not_eq_true] at hv
    have HV := Lib.hid hv
    have W1 := Lib.hid (qWeighted_no A1 A2 N c1 Q c2 js w2 hJ2 HM.out (by omega) hv)
    clear hv
    go_wp2_with fail
    refine W1.out.mono ?_
    rintro e3 w3 ⟨rfl, hb3⟩
    have hJ3 := hJ2.later hb3
    have hw3 := hw2.trans (hb3.mono hw2.size)
    have L1 := Lib.hid (qLate_no A1 A2 N c1 Q c2 js w3 hJ3 HM.out (by omega) HV.out)
    clear W1 hJ2 ho2 hw2 hb3
    go_wp2_with fail
    refine L1.out.mono ?_
    rintro e4 w4 ⟨rfl, hb4⟩
    have hJ4 := hJ3.later hb4
    have hw4 := hw3.trans (hb4.mono hw3.size)
    have B1 := Lib.hid (qAble_no A1 A2 N c1 Q c2 js w4 hJ4 HM.out (by omega) HV.out)
    clear L1 hJ3 hw3 hb4
    go_wp2_with fail
    refine B1.out.mono ?_
    rintro e5 w5 ⟨rfl, hb5⟩
    have hJ5 := hJ4.later hb5
    have hw5 := hw4.trans (hb5.mono hw4.size)
    have C1 := Lib.hid (Check_no A1 N c1 js w5 hJ5 HM.out (by omega) HV.out)
    clear B1 hJ4 hw4 hb5
    go_wp2_with fail
    refine C1.out.mono ?_
    rintro e6 w6 ⟨rfl, hb6⟩
    have hJ6 := hJ5.later hb6
    have hw6 := hw5.trans (hb6.mono hw5.size)
    have F1 := Lib.hid (bad_any A1 N c1 js w6 hJ6 HM.out)
    rw [if_neg (by rw [HV.out]; simp)] at F1
    clear C1 hJ5 hw5 hb6
    go_wp2_with fail
    refine F1.out.mono ?_
    rintro e7 w7 ⟨rfl, hb7⟩
    have hJ7 := hJ6.later hb7
    have hw7 := hw6.trans (hb7.mono hw6.size)
    clear F1 hJ6 hw6 hb7
    go_wp2_with fail
    refine (lives_any _).mono ?_
    rintro e8 w8 ⟨rfl, hb8⟩
    have hJ8 := hJ7.later hb8
    have hw8 := hw7.trans (hb8.mono hw7.size)
    have V1 := Lib.hid (Valid_any A1 N c1 js w8 hJ8 HM.out)
    rw [HV.out] at V1
    clear hJ7 hw7 hb8
    go_wp2_with fail
    refine V1.out.mono ?_
    rintro e9 w9 ⟨rfl, hb9⟩
    have hw9 := hw8.trans (hb9.mono hw8.size)
    clear V1 hJ8 hw8 hb9
    go_wp2_with fail
    go_ret
    exact ⟨rfl, hw9⟩
  case pos =>
    have HV := Lib.hid hv
    have HT : Hid (∀ (k : Nat) (x : Jb), js[k]? = some x → Tame x) := fun k x h => validB_tame hv h
    have HC : Hid (∀ (k : Nat) (x : Jb), js[k]? = some x → Calm x) := fun k x h => validB_calm hv h
    have W1 := Lib.hid (qWeighted_any A1 A2 N c1 Q c2 js o w2 hJ2 ho2 hv (by omega))
    clear hv hN
    go_wp2_with fail
    refine W1.out.mono ?_
    rintro e3 w3 ⟨a, r, rfl, hca, hb3⟩
    have HCa := Lib.hid hca
    have hJ3 := hJ2.later hb3
    have ho3 := ho2.later hb3
    have hw3 := hw2.trans (hb3.mono hw2.size)
    have L1 := Lib.hid (qLate_any A1 A2 N c1 Q c2 js o w3 hJ3 ho3 HV.out (by omega) hcc)
    clear W1 hca hJ2 ho2 hw2 hb3
    go_wp2_with fail
    refine L1.out.mono ?_
    rintro e4 w4 ⟨b, s, rfl, hcb, hb4⟩
    have HCb := Lib.hid hcb
    have hJ4 := hJ3.later hb4
    have ho4 := ho3.later hb4
    have hw4 := hw3.trans (hb4.mono hw3.size)
    have B1 := Lib.hid (qAble_any A1 A2 N c1 Q c2 js o w4 hJ4 ho4 HV.out (by omega))
    clear L1 hcb hJ3 ho3 hw3 hb4
    go_wp2_with fail
    refine B1.out.mono ?_
    rintro e5 w5 ⟨d, t, rfl, hcd, hb5⟩
    have HCd := Lib.hid hcd
    have hJ5 := hJ4.later hb5
    have ho5 := ho4.later hb5
    have hw5 := hw4.trans (hb5.mono hw4.size)
    have C1 := Lib.hid (Check_yes A1 N c1 js w5 hJ5 HV.out)
    clear B1 hcd hJ4 ho4 hw4 hb5
    go_wp2_with fail
    refine C1.out.mono ?_
    rintro e6 w6 ⟨rfl, hb6⟩
    have hJ6 := hJ5.later hb6
    have ho6 := ho5.later hb6
    have hw6 := hw5.trans (hb6.mono hw5.size)
    have F1 := Lib.hid (bad_any A1 N c1 js w6 hJ6 HM.out)
    rw [if_pos HV.out] at F1
    clear C1 hJ5 ho5 hw5 hb6
    go_wp2_with fail
    refine F1.out.mono ?_
    rintro e7 w7 ⟨rfl, hb7⟩
    have hJ7 := hJ6.later hb7
    have ho7 := ho6.later hb7
    have hw7 := hw6.trans (hb7.mono hw6.size)
    clear F1 hJ6 ho6 hw6 hb7
    go_wp2_with fail
    refine (lives_any _).mono ?_
    rintro e8 w8 ⟨rfl, hb8⟩
    have hJ8 := hJ7.later hb8
    have ho8 := ho7.later hb8
    have hw8 := hw7.trans (hb8.mono hw7.size)
    have V1 := Lib.hid (Valid_any A1 N c1 js w8 hJ8 HM.out)
    rw [HV.out] at V1
    clear hJ7 ho7 hw7 hb8
    go_wp2_with fail
    refine V1.out.mono ?_
    rintro e9 w9 ⟨rfl, hb9⟩
    have hJ9 := hJ8.later hb9
    have ho9 := ho8.later hb9
    have hw9 := hw8.trans (hb9.mono hw8.size)
    have R1 := Lib.hid (Rising_any A2 Q c2 N o w9 ho9 (by omega) (by omega))
    clear V1 hJ8 ho8 hw8 hb9
    go_wp2_with fail
    refine R1.out.mono ?_
    rintro e10 w10 ⟨g, rfl, hg, hb10⟩
    have HG := Lib.hid hg
    have hJ10 := hJ9.later hb10
    have ho10 := ho9.later hb10
    have hw10 := hw9.trans (hb10.mono hw9.size)
    clear R1 hg hJ9 ho9 hw9 hb10
    have hN64 : N ≤ 65 := hfl
    cases g with
    | false =>
      have hd : d = false ∧ t = 2 := by
        rcases HCd.out with ⟨_, h⟩ | ⟨h, _⟩
        · exact h
        · have := HG.out.2 h; cases this
      obtain ⟨rfl, rfl⟩ := hd
      clear HG HCd
      have O1 := Lib.hid (Order_any A2 Q c2 N o w10 ho10 (by omega) (by omega))
      go_wp2_with fail
      refine O1.out.mono ?_
      rintro e12 w12 ⟨g, rfl, hg, hb12⟩
      have HG := Lib.hid hg
      have hJ12 := hJ10.later hb12
      have ho12 := ho10.later hb12
      have hw12 := hw10.trans (hb12.mono hw10.size)
      clear O1 hg hJ10 ho10 hw10 hb12
      cases g with
      | false =>
        have hna : ¬ isOrd N o := fun h => by have := HG.out.2 h; cases this
        have h1 : a = 0 ∧ r = 2 := by
          rcases HCa.out with ⟨_, h⟩ | ⟨h, _⟩
          · exact h
          · exact absurd h hna
        have h2 : b = 0 ∧ s = 2 := by
          rcases HCb.out with ⟨_, h⟩ | ⟨h, _⟩ | ⟨h, _⟩
          · exact h
          · exact absurd h hna
          · exact absurd h hna
        obtain ⟨rfl, rfl⟩ := h1
        obtain ⟨rfl, rfl⟩ := h2
        clear HG HCa HCb hna
        go_wp2_with fail
        go_ret
        exact ⟨rfl, hw12⟩
      | true =>
        have HO : Hid (isOrd N o) := HG.out.1 rfl
        have h1 : a = wsum js 0 o ∧ r = 0 := by
          rcases HCa.out with ⟨h, _⟩ | ⟨_, h⟩
          · exact absurd HO.out h
          · exact h
        obtain ⟨ha, rfl⟩ := h1
        have HCb2 : Hid (¬ Kept js o ∧ b = 0 ∧ s = 2 ∨ Kept js o ∧ b = lateF js 0 o ∧ s = 0) := by
          rcases HCb.out with ⟨h, _⟩ | ⟨_, h⟩ | ⟨_, h⟩
          · exact absurd HO.out h
          · exact .inl h
          · exact .inr h
        have hQN : Q = N := by rw [← HO.out.1]; exact HQl.out
        have hv64 : N ≤ 64 := by
          have h := HV.out
          unfold validB at h
          simp only [Bool.and_eq_true, decide_eq_true_eq] at h
          have := hJ12.1
          omega
        subst hQN
        have P1 := Lib.hid (rWeighted_any A1 A2 Q c1 Q c2 js o w12 hJ12 ho12 HT.out HO.out.2.2 (by omega))
        rw [← ha] at P1
        have n1 := neb_self3 a
        clear HG HCa HCb ha
        go_wp2_with fail
        refine P1.out.mono ?_
        rintro e13 w' ⟨rfl, rfl⟩
        have K1 := Lib.hid (Keeps_any A1 A2 Q c1 c2 js o w12 hJ12 ho12 HV.out HO.out)
        clear P1
        go_wp2_with fail
        refine K1.out.mono ?_
        rintro e14 w14 ⟨g, rfl, hg, hb14⟩
        have HG := Lib.hid hg
        have hJ14 := hJ12.later hb14
        have ho14 := ho12.later hb14
        have hw14 := hw12.trans (hb14.mono hw12.size)
        clear K1 hg hJ12 ho12 hw12 hb14
        cases g with
        | false =>
          have h2 : b = 0 ∧ s = 2 := by
            rcases HCb2.out with ⟨_, h⟩ | ⟨h, _⟩
            · exact h
            · have := HG.out.2 h; cases this
          obtain ⟨rfl, rfl⟩ := h2
          clear HG HCb2
          go_wp2_with fail
          go_ret
          exact ⟨rfl, hw14⟩
        | true =>
          have h2 : b = lateF js 0 o ∧ s = 0 := by
            rcases HCb2.out with ⟨h, _⟩ | ⟨_, h⟩
            · exact absurd (HG.out.1 rfl) h
            · exact h
          obtain ⟨hbb, rfl⟩ := h2
          have Z1 := Lib.hid (rLate_any A1 A2 Q c1 Q c2 js o w14 hJ14 ho14 HC.out HO.out.2.2 (by omega))
          rw [← hbb] at Z1
          have n2 := eqb_self3 b
          clear HG HCb2 hbb
          go_wp2_with fail
          refine Z1.out.mono ?_
          rintro e15 w15 ⟨rfl, hb15⟩
          have hfin := hw14.trans (hb15.mono hw14.size)
          go_wp2_with fail
          go_ret
          exact ⟨rfl, hfin⟩
    | true =>
      have HRP : Hid (RiseP N o) := HG.out.1 rfl
      have hd : (d = true ↔ AbleT js 0 o) ∧ t = 0 := by
        rcases HCd.out with ⟨h, _⟩ | ⟨_, h⟩
        · exact absurd HRP.out h
        · exact h
      obtain ⟨hd, rfl⟩ := hd
      have HD := Lib.hid hd
      have T1 := Lib.hid (rAble_any A1 A2 N c1 Q c2 js o w10 hJ10 ho10 HC.out HRP.out.1 (by omega))
      clear HG HCd hd
      go_wp2_with fail
      refine T1.out.mono ?_
      rintro e11 w11 ⟨f, rfl, hf, hb11⟩
      have hdf : d = f := by
        have h1 := HD.out
        cases d <;> cases f <;> simp at h1 hf ⊢ <;> first | exact absurd hf h1 | exact absurd h1 hf
      subst hdf
      have nb := neb_bool d
      have hJ11 := hJ10.later hb11
      have ho11 := ho10.later hb11
      have hw11 := hw10.trans (hb11.mono hw10.size)
      clear T1 hf HD hJ10 ho10 hw10 hb11
      have O1 := Lib.hid (Order_any A2 Q c2 N o w11 ho11 (by omega) (by omega))
      go_wp2_with fail
      refine O1.out.mono ?_
      rintro e12 w12 ⟨g, rfl, hg, hb12⟩
      have HG := Lib.hid hg
      have hJ12 := hJ11.later hb12
      have ho12 := ho11.later hb12
      have hw12 := hw11.trans (hb12.mono hw11.size)
      clear O1 hg hJ11 ho11 hw11 hb12
      cases g with
      | false =>
        have hna : ¬ isOrd N o := fun h => by have := HG.out.2 h; cases this
        have h1 : a = 0 ∧ r = 2 := by
          rcases HCa.out with ⟨_, h⟩ | ⟨h, _⟩
          · exact h
          · exact absurd h hna
        have h2 : b = 0 ∧ s = 2 := by
          rcases HCb.out with ⟨_, h⟩ | ⟨h, _⟩ | ⟨h, _⟩
          · exact h
          · exact absurd h hna
          · exact absurd h hna
        obtain ⟨rfl, rfl⟩ := h1
        obtain ⟨rfl, rfl⟩ := h2
        clear HG HCa HCb hna
        go_wp2_with fail
        go_ret
        exact ⟨rfl, hw12⟩
      | true =>
        have HO : Hid (isOrd N o) := HG.out.1 rfl
        have h1 : a = wsum js 0 o ∧ r = 0 := by
          rcases HCa.out with ⟨h, _⟩ | ⟨_, h⟩
          · exact absurd HO.out h
          · exact h
        obtain ⟨ha, rfl⟩ := h1
        have HCb2 : Hid (¬ Kept js o ∧ b = 0 ∧ s = 2 ∨ Kept js o ∧ b = lateF js 0 o ∧ s = 0) := by
          rcases HCb.out with ⟨h, _⟩ | ⟨_, h⟩ | ⟨_, h⟩
          · exact absurd HO.out h
          · exact .inl h
          · exact .inr h
        have hQN : Q = N := by rw [← HO.out.1]; exact HQl.out
        have hv64 : N ≤ 64 := by
          have h := HV.out
          unfold validB at h
          simp only [Bool.and_eq_true, decide_eq_true_eq] at h
          have := hJ12.1
          omega
        subst hQN
        have P1 := Lib.hid (rWeighted_any A1 A2 Q c1 Q c2 js o w12 hJ12 ho12 HT.out HO.out.2.2 (by omega))
        rw [← ha] at P1
        have n1 := neb_self3 a
        clear HG HCa HCb ha
        go_wp2_with fail
        refine P1.out.mono ?_
        rintro e13 w' ⟨rfl, rfl⟩
        have K1 := Lib.hid (Keeps_any A1 A2 Q c1 c2 js o w12 hJ12 ho12 HV.out HO.out)
        clear P1
        go_wp2_with fail
        refine K1.out.mono ?_
        rintro e14 w14 ⟨g, rfl, hg, hb14⟩
        have HG := Lib.hid hg
        have hJ14 := hJ12.later hb14
        have ho14 := ho12.later hb14
        have hw14 := hw12.trans (hb14.mono hw12.size)
        clear K1 hg hJ12 ho12 hw12 hb14
        cases g with
        | false =>
          have h2 : b = 0 ∧ s = 2 := by
            rcases HCb2.out with ⟨_, h⟩ | ⟨h, _⟩
            · exact h
            · have := HG.out.2 h; cases this
          obtain ⟨rfl, rfl⟩ := h2
          clear HG HCb2
          go_wp2_with fail
          go_ret
          exact ⟨rfl, hw14⟩
        | true =>
          have h2 : b = lateF js 0 o ∧ s = 0 := by
            rcases HCb2.out with ⟨h, _⟩ | ⟨_, h⟩
            · exact absurd (HG.out.1 rfl) h
            · exact h
          obtain ⟨hbb, rfl⟩ := h2
          have Z1 := Lib.hid (rLate_any A1 A2 Q c1 Q c2 js o w14 hJ14 ho14 HC.out HO.out.2.2 (by omega))
          rw [← hbb] at Z1
          have n2 := eqb_self3 b
          clear HG HCb2 hbb
          go_wp2_with fail
          refine Z1.out.mono ?_
          rintro e15 w15 ⟨rfl, hb15⟩
          have hfin := hw14.trans (hb15.mono hw14.size)
          go_wp2_with fail
          go_ret
          exact ⟨rfl, hfin⟩
end Go.Proofs.Ytnfcigbiebbjdaa
