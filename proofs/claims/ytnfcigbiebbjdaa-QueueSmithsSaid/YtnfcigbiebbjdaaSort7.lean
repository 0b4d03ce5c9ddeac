/-
  A stable sort of a row of integers by a comparison.
  Conditions: as for the insertion; at most 1000 numbers.
-/
import Derived.Test.YtnfcigbiebbjdaaSort6
import Derived.Test.YtnfcigbiebbjdaaLevels
namespace Go.Proofs.Ytnfcigbiebbjdaa
open Go.RowKit

theorem merges_all {g : Nat} {cb : Array Value} {cf : Int → Int → Int} {w0 : World} {R : Nat} {D : Int → Prop} (C : Cmp g cb cf w0 R D) {le : Int → Int → Prop} (T : TotLe le) : ∀ f, Merges g cb cf w0 R D le f
  | 0 => fun P A B Q cap w hf hA hB => by omega
  | f + 1 => fun P A B Q cap w hf hA hB hD hX sA sB hR hw a m b N ha hm hb hN hl => by
    rcases Nat.lt_or_ge 1 A.length with h1 | h1
    · rcases Nat.lt_or_ge 1 B.length with h2 | h2
      · exact merge_step C T f (merges_all C T f) P A B Q cap w hf h1 h2 hD hX sA sB hR hw a m b N ha hm hb hN hl
      · match B, hB, h2 with
        | [y], _, _ =>
          have e : P ++ A ++ [y] ++ Q = P ++ A ++ y :: Q := by simp
          rw [e] at hR hN
          exact merge_right C T P A Q y cap w ⟨hD y (by simp), fun x hx => hD x (by simp [hx])⟩ (fun x hx => hX x hx y (by simp)) sA h1 hR hw a m b N ha hm (by simpa using hb) hN hl
    · match A, hA, h1 with
      | [x], _, _ =>
        have e : P ++ [x] ++ B ++ Q = P ++ (x :: B) ++ Q := by simp
        rw [e] at hR hN
        exact merge_left C T P B Q x cap w ⟨hD x (by simp), fun y hy => hD y (by simp [hy])⟩ (fun y hy => hX x (by simp) y hy) sB hR hw a m b N ha (by simpa using hm) (by simpa using hb) hN hl

/-- The insertion, told by numbers. -/
theorem insert_at {g : Nat} {cb : Array Value} {cf : Int → Int → Int} {w0 : World} {R : Nat} {D : Int → Prop} (C : Cmp g cb cf w0 R D) {le : Int → Int → Prop} (T : TotLe le)
    (P S Q : List Int) (cap : Nat) (w : World) (hD : ∀ x ∈ S, D x) (hA : S.Pairwise (Agrees cf le)) (hB : RowB w R (P ++ S ++ Q)) (hw : w0.grownBy w (some R)) (a b N : Nat) (ha : a = P.length) (hb : b = P.length + S.length) (hN : N = (P ++ S ++ Q).length) (hl : N ≤ 1000) :
    Calls Try.prog 91 #[.slice (some ⟨R, 0, none⟩) N cap, .int .i64 a, .int .i64 b, .func (.func g) #[] cb] w fun e w' =>
      e = .returned (.tuple #[]) ∧ ∃ S', S'.Perm S ∧ S'.Pairwise le ∧ RowB w' R (P ++ S' ++ Q) ∧ w0.grownBy w' (some R) := by
  have h := insert_any C T P S Q cap w hD hA (by simpa using hB) hw (by rw [← List.append_assoc, ← hN]; exact hl)
  subst ha hb
  rw [← List.append_assoc, ← hN] at h
  exact h.mono fun e w' ⟨he, S', h1, h2, h3, h4⟩ => ⟨he, S', h1, h2, by simpa using h3, h4⟩

set_option maxRecDepth 100000 in
set_option maxHeartbeats 8000000 in
theorem stable_any {g : Nat} {cb : Array Value} {cf : Int → Int → Int} {w0 : World} {R : Nat} {D : Int → Prop} (C : Cmp g cb cf w0 R D) {le : Int → Int → Prop} (T : TotLe le)
    (d : List Int) (cap : Nat) (w : World) (hD : ∀ x ∈ d, D x) (hA : d.Pairwise (Agrees cf le)) (hB : RowB w R d) (hw : w0.grownBy w (some R)) (n : Nat) (hn : n = d.length) (hl : n ≤ 1000) :
    Calls Try.prog 79 #[.slice (some ⟨R, 0, none⟩) n cap, .int .i64 n, .func (.func g) #[] cb] w fun e w' =>
      e = .returned (.tuple #[]) ∧ ∃ L, L.Perm d ∧ L.Pairwise le ∧ RowB w' R L ∧ w0.grownBy w' (some R) := by
  have HC := Lib.hid C
  have HT := Lib.hid T
  have HM := Lib.hid (merges_all C T 1000)
  have HA := Lib.hid hA
  have HD := Lib.hid hD
  have HN := Lib.hid hn
  clear C T hD hA hn
  go_enter Try.func79, Try.ntmps79
  go_wp2_with fail
  go_loopw [7, 8] (fun u t wr => ∃ (k a b : Nat) (L : List Int), u = .int .i64 a ∧ t = .int .i64 b ∧ b = a + 20 ∧ a ≤ n ∧ Hid (a = 20 * k ∧ Level le d L 1 20 k ∧ L.drop a = d.drop a) ∧ RowB wr R L ∧ w0.grownBy wr (some R)) (fun u _ _ => n - (intOf u).toNat)
  case atStart => exact ⟨0, 0, 20, d, rfl, rfl, rfl, Nat.zero_le _, ⟨rfl, Level.first d 20, rfl⟩, hB, hw⟩
  case round =>
    clear hB hw
    obtain ⟨k, a, b, L, rfl, rfl, hb, han, hH, hB, hw⟩ := hrel
    have HBa := Lib.hid hb
    have hbb : b ≤ 1020 := by omega
    by_cases hle : b ≤ n
    · have hbt : decide ((b : Int) ≤ (n : Int)) = true := by simp; omega
      have hbt2 : (b : Int) ≤ (n : Int) := by omega
      have hLl : L.length = n := hH.out.2.1.1.trans HN.out.symm
      have e1 : L = L.take a ++ ((L.drop a).take 20) ++ L.drop b := by
        rw [hb, ← List.drop_drop, List.append_assoc, List.take_append_drop, List.take_append_drop]
      have l1 : (L.take a).length = a := by rw [List.length_take]; omega
      have l2 : ((L.drop a).take 20).length = 20 := by rw [List.length_take, List.length_drop]; omega
      have hS : ((L.drop a).take 20).Sublist d := by rw [hH.out.2.2]; exact (List.take_sublist _ _).trans (List.drop_sublist _ _)
      have hLb : L.drop b = d.drop b := by rw [hb, ← List.drop_drop, hH.out.2.2, List.drop_drop]
      have HS := Lib.hid hS
      have HLb := Lib.hid hLb
      have HLv := Lib.hid hH.out.2.1
      have HK := Lib.hid hH.out.1
      clear hS hLb hH
      generalize L.take a = P at *
      generalize (L.drop a).take 20 = S at *
      generalize L.drop b = Q at *
      subst e1
      have M := Lib.hid (insert_at (w0 := w0) HC.out HT.out P S Q cap wr (fun x hx => HD.out x (HS.out.subset hx)) (HA.out.sublist HS.out) hB hw a b n l1.symm (by omega) hLl.symm hl)
      have HL1 := Lib.hid (And.intro l1 l2)
      clear hB hw hb l1 l2 hLl
      go_wp2_with fail
      refine M.out.mono ?_
      rintro e w2 ⟨rfl, S', hP, hS', hB2, hw2⟩
      have HP := Lib.hid hP
      have HS' := Lib.hid hS'
      clear hP hS' M
      go_wp2_with fail
      go_roundw
      case rel =>
        have hb := HBa.out
        have hL1 := HL1.out
        have hl2 := HP.out.length_eq
        refine ⟨k + 1, b, b + 20, P ++ S' ++ Q, rfl, by go_num, rfl, hle, ⟨by have := HK.out; omega, ?_, ?_⟩, hB2, hw2⟩
        · exact HLv.out.step (c := 20) rfl (by have := HK.out; omega) (.inl hL1.2) HP.out HS'.out
        · rw [drop_hi (X := P ++ S') (by rw [List.length_append]; omega), List.length_append, show b - (P.length + S'.length) = 0 by omega, List.drop_zero]
          exact HLb.out
      case measure => have := HBa.out; simp [intOf]; omega
    · have hbt : decide ((b : Int) ≤ (n : Int)) = false := by simp; omega
      have hbt2 : ¬ (b : Int) ≤ (n : Int) := by omega
      have hLl : L.length = n := hH.out.2.1.1.trans HN.out.symm
      have e1 : L = L.take a ++ L.drop a ++ [] := by rw [List.append_nil, List.take_append_drop]
      have l1 : (L.take a).length = a := by rw [List.length_take]; omega
      have l2 : (L.drop a).length = n - a := by rw [List.length_drop]; omega
      have hS : (L.drop a).Sublist d := by rw [hH.out.2.2]; exact List.drop_sublist _ _
      have HS := Lib.hid hS
      have HLv := Lib.hid hH.out.2.1
      have HK := Lib.hid hH.out.1
      clear hS hH
      generalize L.take a = P at *
      generalize L.drop a = S at *
      subst e1
      have M := Lib.hid (insert_at (w0 := w0) HC.out HT.out P S [] cap wr (fun x hx => HD.out x (HS.out.subset hx)) (HA.out.sublist HS.out) hB hw a n n l1.symm (by omega) hLl.symm hl)
      have HL1 := Lib.hid (And.intro l1 l2)
      clear hB hw hb l1 l2 hLl
      go_wp2_with fail
      refine M.out.mono ?_
      rintro e w2 ⟨rfl, S', hP, hS', hB2, hw2⟩
      have HL2 : Hid (Level le d (P ++ S' ++ []) 20 40 0) := by
        have h1 := HL1.out
        have h2 := HBa.out
        have h3 := HK.out
        have h4 := HN.out
        have h5 := HLv.out.step (c := 20) rfl (by omega) (.inr ⟨by omega, rfl⟩) hP hS'
        exact h5.next 40 (by omega)
      generalize P ++ S' ++ [] = L at *
      clear M HL1 HS HLv HK HBa hP hS' hbt hbt2 hle han
      go_wp2_with fail
      go_loopw [6] (fun u wr => ∃ (bs : Nat) (L : List Int), u = .int .i64 bs ∧ 20 ≤ bs ∧ bs ≤ 2000 ∧ Hid (Level le d L bs (2 * bs) 0) ∧ RowB wr R L ∧ w0.grownBy wr (some R)) (fun u _ => n - (intOf u).toNat)
      case atStart => exact ⟨20, L, rfl, Nat.le_refl _, by omega, HL2, hB2, hw2⟩
      case round =>
        clear hB2 hw2 HL2
        obtain ⟨bs, L, rfl, hb20, hb2k, hLv, hB, hw⟩ := hrel
        by_cases hlt : bs < n
        · have hbt : decide ((bs : Int) < (n : Int)) = true := by simp; omega
          have hbt2 : (bs : Int) < (n : Int) := by omega
          obtain ⟨M2, hM2⟩ : ∃ M2, M2 = 2 * bs := ⟨_, rfl⟩
          have q1 : 2 * (bs : Int) = (M2 : Int) := by omega
          have q2 : (bs : Int) * 2 = (M2 : Int) := by omega
          have hM3 : M2 ≤ 2000 := by omega
          rw [← hM2] at hLv
          have HM2 := Lib.hid hM2
          clear hM2
          go_wp2_with fail
          go_loopw [7, 8] (fun u t wr => ∃ (k a b : Nat) (L : List Int), u = .int .i64 a ∧ t = .int .i64 b ∧ b ≤ a + 2000 ∧ a ≤ n ∧ Hid (b = a + M2 ∧ a = M2 * k ∧ Level le d L bs M2 k) ∧ RowB wr R L ∧ w0.grownBy wr (some R)) (fun u _ _ => n - (intOf u).toNat)
          case atStart => exact ⟨0, 0, M2, L, rfl, rfl, by omega, Nat.zero_le _, ⟨by omega, rfl, hLv.out⟩, hB, hw⟩
          case round =>
            clear hB hw hLv
            obtain ⟨k, a, b, L, rfl, rfl, hb, han, hH, hB, hw⟩ := hrel
            obtain ⟨m, hm⟩ : ∃ m, m = a + bs := ⟨_, rfl⟩
            have q3 : (a : Int) + (bs : Int) = (m : Int) := by omega
            have hHo := hH.out
            have hLl : L.length = n := hHo.2.2.1.trans HN.out.symm
            have hM2 := HM2.out
            have ek : a = bs * (2 * k) := by rw [hHo.2.1, hM2, Nat.mul_comm 2 bs, Nat.mul_assoc]
            have em : m = bs * (2 * k + 1) := by rw [Nat.mul_succ, ← ek]; exact hm
            have fa := hHo.2.2.2.2.2 (2 * k) (by rw [← ek, hHo.2.1]; exact Nat.le_refl _)
            have fm := hHo.2.2.2.2.2 (2 * k + 1) (by rw [← em]; have := hHo.2.1; omega)
            rw [← ek] at fa
            rw [← em] at fm
            have hLp : L.Perm d := hHo.2.2.perm (c := 2) (by omega) (by omega)
            have hcr := prm_cross HA.out fm.1 hLp
            have sA0 : ((L.drop a).take bs).Pairwise le := fa.2
            have sB0 : ((L.drop m).take bs).Pairwise le := fm.2
            have hmb : m ≤ 3000 := by omega
            by_cases hle : b ≤ n
            · have hbe : decide ((b : Int) ≤ (n : Int)) = true := by simp; omega
              have hbe2 : (b : Int) ≤ (n : Int) := by omega
              have hbM := hHo.1
              have e1 : L = L.take a ++ ((L.drop a).take bs) ++ ((L.drop m).take bs) ++ L.drop b := by
                rw [show b = m + bs by omega, ← List.drop_drop, List.append_assoc, List.take_append_drop, hm, ← List.drop_drop, List.append_assoc, List.take_append_drop, List.take_append_drop]
              have e2 : L.take m = L.take a ++ ((L.drop a).take bs) := by rw [hm, List.take_add]
              have e3 : L.drop m = ((L.drop m).take bs) ++ L.drop b := by rw [show b = m + bs by omega, ← List.drop_drop, List.take_append_drop]
              have l1 : (L.take a).length = a := by rw [List.length_take]; omega
              have l2 : ((L.drop a).take bs).length = bs := by rw [List.length_take, List.length_drop]; omega
              have l3 : ((L.drop m).take bs).length = bs := by rw [List.length_take, List.length_drop]; omega
              have hLv := hHo.2.2
              rw [e2, e3] at hcr
              clear e2 e3 fa fm
              generalize L.take a = P at *
              generalize (L.drop a).take bs = A at *
              generalize (L.drop m).take bs = B at *
              generalize L.drop b = Q at *
              subst e1
              have M := Lib.hid (HM.out P A B Q cap wr (by omega) (by omega) (by omega) (fun x hx => HD.out x (hLp.mem_iff.1 (by rcases List.mem_append.1 hx with h | h <;> simp [h]))) (fun x hx y hy => hcr x (by simp [hx]) y (by simp [hy])) sA0 sB0 hB hw a m b n l1.symm (by omega) (by omega) hLl.symm hl)
              have HO := Lib.hid (And.intro l1 (And.intro l2 (And.intro l3 (And.intro hbM (And.intro hHo.2.1 (And.intro hM2 hm))))))
              have HLv := Lib.hid hLv
              clear hB hw hH hHo hLl ek em hLp hcr sA0 sB0 l1 l2 l3 hLv hbM hM2 hm
              go_wp2_with fail
              refine M.out.mono ?_
              rintro e w2 ⟨rfl, C', hP, hS', hB2, hw2⟩
              have HP := Lib.hid hP
              have HS' := Lib.hid hS'
              have hbn : b ≤ 1000 := by omega
              clear hP hS' M
              go_wp2_with fail
              go_roundw
              case rel =>
                obtain ⟨l1, l2, l3, hbM, hak, hM2, hm⟩ := HO.out
                have hl2 := HP.out.length_eq
                rw [List.length_append] at hl2
                refine ⟨k + 1, b, b + M2, P ++ C' ++ Q, rfl, by first | rfl | go_num, by omega, hle, ⟨rfl, by rw [Nat.mul_succ]; omega, ?_⟩, hB2, hw2⟩
                have h1 := HLv.out
                rw [List.append_assoc P A B] at h1
                exact h1.step (c := 2) (by omega) (by omega) (.inl (by rw [List.length_append]; omega)) HP.out HS'.out
              case measure => have := HO.out.2.2.2.1; simp [intOf]; omega
            · have hbe : decide ((b : Int) ≤ (n : Int)) = false := by simp; omega
              have hbe2 : ¬ (b : Int) ≤ (n : Int) := by omega
              have hbM := hHo.1
              by_cases hmn : m < n
              · have hbm : decide ((m : Int) < (n : Int)) = true := by simp; omega
                have hbm2 : (m : Int) < (n : Int) := by omega
                have e1 : L = L.take a ++ ((L.drop a).take bs) ++ (L.drop m) ++ [] := by
                  rw [List.append_nil, hm, ← List.drop_drop, List.append_assoc, List.take_append_drop, List.take_append_drop]
                have e2 : L.take m = L.take a ++ ((L.drop a).take bs) := by rw [hm, List.take_add]
                have l1 : (L.take a).length = a := by rw [List.length_take]; omega
                have l2 : ((L.drop a).take bs).length = bs := by rw [List.length_take, List.length_drop]; omega
                have l3 : (L.drop m).length = n - m := by rw [List.length_drop]; omega
                rw [List.take_of_length_le (by omega)] at sB0
                have hLv := hHo.2.2
                rw [e2] at hcr
                clear e2 fa fm
                generalize L.take a = P at *
                generalize (L.drop a).take bs = A at *
                generalize L.drop m = B at *
                subst e1
                have M := Lib.hid (HM.out P A B [] cap wr (by omega) (by omega) (by omega) (fun x hx => HD.out x (hLp.mem_iff.1 (by rcases List.mem_append.1 hx with h | h <;> simp [h]))) (fun x hx y hy => hcr x (by simp [hx]) y hy) sA0 sB0 hB hw a m n n l1.symm (by omega) (by omega) hLl.symm hl)
                have HO := Lib.hid (And.intro l1 (And.intro l2 (And.intro l3 (And.intro hbM (And.intro hHo.2.1 (And.intro hM2 hm))))))
                have HLv := Lib.hid hLv
                clear hB hw hH hHo hLl ek em hLp hcr sA0 sB0 l1 l2 l3 hLv hbM hM2 hm
                go_wp2_with fail
                refine M.out.mono ?_
                rintro e w2 ⟨rfl, C', hP, hS', hB2, hw2⟩
                have HP := Lib.hid hP
                have HS' := Lib.hid hS'
                clear hP hS' M
                go_wp2_with fail
                go_roundw
                case rel =>
                  obtain ⟨l1, l2, l3, hbM, hak, hM2, hm⟩ := HO.out
                  refine ⟨M2, P ++ C' ++ [], by first | rfl | go_num, by omega, hM3, ?_, hB2, hw2⟩
                  have h1 := HLv.out
                  rw [List.append_assoc P A B] at h1
                  exact (h1.step (c := 2) (by omega) (by omega) (.inr ⟨by rw [List.length_append]; omega, rfl⟩) HP.out HS'.out).next _ (by rw [Nat.mul_succ, ← hak, ← HN.out]; omega)
                case measure => have := HM2.out; simp [intOf]; omega
              · have hbm : decide ((m : Int) < (n : Int)) = false := by simp; omega
                have hbm2 : ¬ (m : Int) < (n : Int) := by omega
                have HLv : Hid (Level le d L M2 (2 * M2) 0) := by
                  have h1 := hHo.2.2
                  have e1 : L = L.take a ++ L.drop a ++ [] := by rw [List.append_nil, List.take_append_drop]
                  have e3 : (L.drop a).take bs = L.drop a := List.take_of_length_le (by rw [List.length_drop]; omega)
                  rw [e3] at sA0
                  have l1 : (L.take a).length = a := by rw [List.length_take]; omega
                  have l2 : (L.drop a).length = n - a := by rw [List.length_drop]; omega
                  rw [e1] at h1
                  have h2 := (h1.step (c := 2) (by omega) (by have := hHo.2.1; omega) (.inr ⟨by omega, rfl⟩) (List.Perm.refl _) sA0).next (2 * M2) (by rw [Nat.mul_succ, ← hHo.2.1, ← HN.out]; omega)
                  rw [← e1] at h2
                  exact h2
                clear hH hHo hLl ek em hLp hcr sA0 sB0 hbM hM2 hm fa fm
                go_wp2_with fail
                go_roundw
                case rel => exact ⟨M2, L, by first | rfl | go_num, by have := HM2.out; omega, hM3, HLv, hB, hw⟩
                case measure => have := HM2.out; simp [intOf]; omega
        · have hbt : decide ((bs : Int) < (n : Int)) = false := by simp; omega
          have hbt2 : ¬ (bs : Int) < (n : Int) := by omega
          go_wp2_with fail
          go_end0
          have h := hLv.out.done (by have := HN.out; omega)
          exact ⟨rfl, L, h.1, h.2, hB, hw⟩
end Go.Proofs.Ytnfcigbiebbjdaa
