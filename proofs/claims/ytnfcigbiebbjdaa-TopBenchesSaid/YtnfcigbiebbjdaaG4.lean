/-
  The seat's texts Sort7 Sort8 Two App Bench John John2 Rows5 in one: the contracts of the functions that the law reaches, and the plain laws that they rest on.
  Conditions: as each theorem states them.
-/
import Derived.Test.YtnfcigbiebbjdaaG3
import Derived.Test.YtnfcigbiebbjdaaG1
import Derived.Deep.AppendLies
import Derived.Deep.AppendSrc
import Derived.Deep.Upon
import Derived.Lib.AppendZerosOnto
namespace Go.Proofs.Ytnfcigbiebbjdaa
open Go.RowKit

theorem merges_all {g : Nat} {cb : Array Value} {cf : Int → Int → Int} {w0 : World} {R : Nat} {D : Int → Prop} (C : Cmp g cb cf w0 R D) {le : Int → Int → Prop} (T : TotLe le) : ∀ f, Merges g cb cf w0 R D le f
  | 0 => fun P A B Q cap w hf hA hB => by omega
  | f + 1 => fun P A B Q cap w hf hA hB hD hX sA sB hR hw a m b N ha hm hb hN hl => by
    rcases Nat.lt_or_ge 1 A.length with h1 | h1
    · rcases Nat.lt_or_ge 1 B.length with h2 | h2
      · exact merge_step C T f (merges_all C T f) P A B Q cap w hf h1 h2 hD hX sA sB hR hw a m b N ha hm hb hN hl
      · match B, hB, h2 with
        | [y], _, _ =>
          have e : P ++ A ++ [y] ++ Q = P ++ A ++ y :: Q := by simp
          rw [e] at hR hN
          exact merge_right C T P A Q y cap w ⟨hD y (by simp), fun x hx => hD x (by simp [hx])⟩ (fun x hx => hX x hx y (by simp)) sA h1 hR hw a m b N ha hm (by simpa using hb) hN hl
    · match A, hA, h1 with
      | [x], _, _ =>
        have e : P ++ [x] ++ B ++ Q = P ++ (x :: B) ++ Q := by simp
        rw [e] at hR hN
        exact merge_left C T P B Q x cap w ⟨hD x (by simp), fun y hy => hD y (by simp [hy])⟩ (fun y hy => hX x (by simp) y hy) sB hR hw a m b N ha (by simpa using hm) (by simpa using hb) hN hl

/-- The insertion, told by numbers. -/
theorem insert_at {g : Nat} {cb : Array Value} {cf : Int → Int → Int} {w0 : World} {R : Nat} {D : Int → Prop} (C : Cmp g cb cf w0 R D) {le : Int → Int → Prop} (T : TotLe le)
    (P S Q : List Int) (cap : Nat) (w : World) (hD : ∀ x ∈ S, D x) (hA : S.Pairwise (Agrees cf le)) (hB : RowB w R (P ++ S ++ Q)) (hw : w0.grownBy w (some R)) (a b N : Nat) (ha : a = P.length) (hb : b = P.length + S.length) (hN : N = (P ++ S ++ Q).length) (hl : N ≤ 1000) :
    Calls Try.prog 91 #[.slice (some ⟨R, 0, none⟩) N cap, .int .i64 a, .int .i64 b, .func (.func g) #[] cb] w fun e w' =>
      e = .returned (.tuple #[]) ∧ ∃ S', S'.Perm S ∧ S'.Pairwise le ∧ RowB w' R (P ++ S' ++ Q) ∧ w0.grownBy w' (some R) := by
  have h := insert_any C T P S Q cap w hD hA (by simpa using hB) hw (by rw [← List.append_assoc, ← hN]; exact hl)
  subst ha hb
  rw [← List.append_assoc, ← hN] at h
  exact h.mono fun e w' ⟨he, S', h1, h2, h3, h4⟩ => ⟨he, S', h1, h2, by simpa using h3, h4⟩

set_option maxRecDepth 100000 in
set_option maxHeartbeats 8000000 in
theorem stable_any {g : Nat} {cb : Array Value} {cf : Int → Int → Int} {w0 : World} {R : Nat} {D : Int → Prop} (C : Cmp g cb cf w0 R D) {le : Int → Int → Prop} (T : TotLe le)
    (d : List Int) (cap : Nat) (w : World) (hD : ∀ x ∈ d, D x) (hA : d.Pairwise (Agrees cf le)) (hB : RowB w R d) (hw : w0.grownBy w (some R)) (n : Nat) (hn : n = d.length) (hl : n ≤ 1000) :
    Calls Try.prog 79 #[.slice (some ⟨R, 0, none⟩) n cap, .int .i64 n, .func (.func g) #[] cb] w fun e w' =>
      e = .returned (.tuple #[]) ∧ ∃ L, L.Perm d ∧ L.Pairwise le ∧ RowB w' R L ∧ w0.grownBy w' (some R) := by
  have HC := Lib.hid C
  have HT := Lib.hid T
  have HM := Lib.hid (merges_all C T 1000)
  have HA := Lib.hid hA
  have HD := Lib.hid hD
  have HN := Lib.hid hn
  clear C T hD hA hn
  go_enter Try.func79, Try.ntmps79
  go_wp2_with fail
  go_loopw [7, 8] (fun u t wr => ∃ (k a b : Nat) (L : List Int), u = .int .i64 a ∧ t = .int .i64 b ∧ b = a + 20 ∧ a ≤ n ∧ Hid (a = 20 * k ∧ Level le d L 1 20 k ∧ L.drop a = d.drop a) ∧ RowB wr R L ∧ w0.grownBy wr (some R)) (fun u _ _ => n - (intOf u).toNat)
  case atStart => exact ⟨0, 0, 20, d, rfl, rfl, rfl, Nat.zero_le _, ⟨rfl, Level.first d 20, rfl⟩, hB, hw⟩
  case round =>
    clear hB hw
    obtain ⟨k, a, b, L, rfl, rfl, hb, han, hH, hB, hw⟩ := hrel
    have HBa := Lib.hid hb
    have hbb : b ≤ 1020 := by omega
    by_cases hle : b ≤ n
    · have hbt : decide ((b : Int) ≤ (n : Int)) = true := by simp; omega
      have hbt2 : (b : Int) ≤ (n : Int) := by omega
      have hLl : L.length = n := hH.out.2.1.1.trans HN.out.symm
      have e1 : L = L.take a ++ ((L.drop a).take 20) ++ L.drop b := by
        rw [hb, ← List.drop_drop, List.append_assoc, List.take_append_drop, List.take_append_drop]
      have l1 : (L.take a).length = a := by rw [List.length_take]; omega
      have l2 : ((L.drop a).take 20).length = 20 := by rw [List.length_take, List.length_drop]; omega
      have hS : ((L.drop a).take 20).Sublist d := by rw [hH.out.2.2]; exact (List.take_sublist _ _).trans (List.drop_sublist _ _)
      have hLb : L.drop b = d.drop b := by rw [hb, ← List.drop_drop, hH.out.2.2, List.drop_drop]
      have HS := Lib.hid hS
      have HLb := Lib.hid hLb
      have HLv := Lib.hid hH.out.2.1
      have HK := Lib.hid hH.out.1
      clear hS hLb hH
      generalize L.take a = P at *
      generalize (L.drop a).take 20 = S at *
      generalize L.drop b = Q at *
      subst e1
      have M := Lib.hid (insert_at (w0 := w0) HC.out HT.out P S Q cap wr (fun x hx => HD.out x (HS.out.subset hx)) (HA.out.sublist HS.out) hB hw a b n l1.symm (by omega) hLl.symm hl)
      have HL1 := Lib.hid (And.intro l1 l2)
      clear hB hw hb l1 l2 hLl
      go_wp2_with fail
      refine M.out.mono ?_
      rintro e w2 ⟨rfl, S', hP, hS', hB2, hw2⟩
      have HP := Lib.hid hP
      have HS' := Lib.hid hS'
      clear hP hS' M
      go_wp2_with fail
      go_roundw
      case rel =>
        have hb := HBa.out
        have hL1 := HL1.out
        have hl2 := HP.out.length_eq
        refine ⟨k + 1, b, b + 20, P ++ S' ++ Q, rfl, by go_num, rfl, hle, ⟨by have := HK.out; omega, ?_, ?_⟩, hB2, hw2⟩
        · exact HLv.out.step (c := 20) rfl (by have := HK.out; omega) (.inl hL1.2) HP.out HS'.out
        · rw [drop_hi (X := P ++ S') (by rw [List.length_append]; omega), List.length_append, show b - (P.length + S'.length) = 0 by omega, List.drop_zero]
          exact HLb.out
      case measure => have := HBa.out; simp [intOf]; omega
    · have hbt : decide ((b : Int) ≤ (n : Int)) = false := by simp; omega
      have hbt2 : ¬ (b : Int) ≤ (n : Int) := by omega
      have hLl : L.length = n := hH.out.2.1.1.trans HN.out.symm
      have e1 : L = L.take a ++ L.drop a ++ [] := by rw [List.append_nil, List.take_append_drop]
      have l1 : (L.take a).length = a := by rw [List.length_take]; omega
      have l2 : (L.drop a).length = n - a := by rw [List.length_drop]; omega
      have hS : (L.drop a).Sublist d := by rw [hH.out.2.2]; exact List.drop_sublist _ _
      have HS := Lib.hid hS
      have HLv := Lib.hid hH.out.2.1
      have HK := Lib.hid hH.out.1
      clear hS hH
      generalize L.take a = P at *
      generalize L.drop a = S at *
      subst e1
      have M := Lib.hid (insert_at (w0 := w0) HC.out HT.out P S [] cap wr (fun x hx => HD.out x (HS.out.subset hx)) (HA.out.sublist HS.out) hB hw a n n l1.symm (by omega) hLl.symm hl)
      have HL1 := Lib.hid (And.intro l1 l2)
      clear hB hw hb l1 l2 hLl
      go_wp2_with fail
      refine M.out.mono ?_
      rintro e w2 ⟨rfl, S', hP, hS', hB2, hw2⟩
      have HL2 : Hid (Level le d (P ++ S' ++ []) 20 40 0) := by
        have h1 := HL1.out
        have h2 := HBa.out
        have h3 := HK.out
        have h4 := HN.out
        have h5 := HLv.out.step (c := 20) rfl (by omega) (.inr ⟨by omega, rfl⟩) hP hS'
        exact h5.next 40 (by omega)
      generalize P ++ S' ++ [] = L at *
      clear M HL1 HS HLv HK HBa hP hS' hbt hbt2 hle han
      go_wp2_with fail
      go_loopw [6] (fun u wr => ∃ (bs : Nat) (L : List Int), u = .int .i64 bs ∧ 20 ≤ bs ∧ bs ≤ 2000 ∧ Hid (Level le d L bs (2 * bs) 0) ∧ RowB wr R L ∧ w0.grownBy wr (some R)) (fun u _ => n - (intOf u).toNat)
      case atStart => exact ⟨20, L, rfl, Nat.le_refl _, by omega, HL2, hB2, hw2⟩
      case round =>
        clear hB2 hw2 HL2
        obtain ⟨bs, L, rfl, hb20, hb2k, hLv, hB, hw⟩ := hrel
        by_cases hlt : bs < n
        · have hbt : decide ((bs : Int) < (n : Int)) = true := by simp; omega
          have hbt2 : (bs : Int) < (n : Int) := by omega
          obtain ⟨M2, hM2⟩ : ∃ M2, M2 = 2 * bs := ⟨_, rfl⟩
          have q1 : 2 * (bs : Int) = (M2 : Int) := by omega
          have q2 : (bs : Int) * 2 = (M2 : Int) := by omega
          have hM3 : M2 ≤ 2000 := by omega
          rw [← hM2] at hLv
          have HM2 := Lib.hid hM2
          clear hM2
          go_wp2_with fail
          go_loopw [7, 8] (fun u t wr => ∃ (k a b : Nat) (L : List Int), u = .int .i64 a ∧ t = .int .i64 b ∧ b ≤ a + 2000 ∧ a ≤ n ∧ Hid (b = a + M2 ∧ a = M2 * k ∧ Level le d L bs M2 k) ∧ RowB wr R L ∧ w0.grownBy wr (some R)) (fun u _ _ => n - (intOf u).toNat)
          case atStart => exact ⟨0, 0, M2, L, rfl, rfl, by omega, Nat.zero_le _, ⟨by omega, rfl, hLv.out⟩, hB, hw⟩
          case round =>
            clear hB hw hLv
            obtain ⟨k, a, b, L, rfl, rfl, hb, han, hH, hB, hw⟩ := hrel
            obtain ⟨m, hm⟩ : ∃ m, m = a + bs := ⟨_, rfl⟩
            have q3 : (a : Int) + (bs : Int) = (m : Int) := by omega
            have hHo := hH.out
            have hLl : L.length = n := hHo.2.2.1.trans HN.out.symm
            have hM2 := HM2.out
            have ek : a = bs * (2 * k) := by rw [hHo.2.1, hM2, Nat.mul_comm 2 bs, Nat.mul_assoc]
            have em : m = bs * (2 * k + 1) := by rw [Nat.mul_succ, ← ek]; exact hm
            have fa := hHo.2.2.2.2.2 (2 * k) (by rw [← ek, hHo.2.1]; exact Nat.le_refl _)
            have fm := hHo.2.2.2.2.2 (2 * k + 1) (by rw [← em]; have := hHo.2.1; omega)
            rw [← ek] at fa
            rw [← em] at fm
            have hLp : L.Perm d := hHo.2.2.perm (c := 2) (by omega) (by omega)
            have hcr := prm_cross HA.out fm.1 hLp
            have sA0 : ((L.drop a).take bs).Pairwise le := fa.2
            have sB0 : ((L.drop m).take bs).Pairwise le := fm.2
            have hmb : m ≤ 3000 := by omega
            by_cases hle : b ≤ n
            · have hbe : decide ((b : Int) ≤ (n : Int)) = true := by simp; omega
              have hbe2 : (b : Int) ≤ (n : Int) := by omega
              have hbM := hHo.1
              have e1 : L = L.take a ++ ((L.drop a).take bs) ++ ((L.drop m).take bs) ++ L.drop b := by
                rw [show b = m + bs by omega, ← List.drop_drop, List.append_assoc, List.take_append_drop, hm, ← List.drop_drop, List.append_assoc, List.take_append_drop, List.take_append_drop]
              have e2 : L.take m = L.take a ++ ((L.drop a).take bs) := by rw [hm, List.take_add]
              have e3 : L.drop m = ((L.drop m).take bs) ++ L.drop b := by rw [show b = m + bs by omega, ← List.drop_drop, List.take_append_drop]
              have l1 : (L.take a).length = a := by rw [List.length_take]; omega
              have l2 : ((L.drop a).take bs).length = bs := by rw [List.length_take, List.length_drop]; omega
              have l3 : ((L.drop m).take bs).length = bs := by rw [List.length_take, List.length_drop]; omega
              have hLv := hHo.2.2
              rw [e2, e3] at hcr
              clear e2 e3 fa fm
              generalize L.take a = P at *
              generalize (L.drop a).take bs = A at *
              generalize (L.drop m).take bs = B at *
              generalize L.drop b = Q at *
              subst e1
              have M := Lib.hid (HM.out P A B Q cap wr (by omega) (by omega) (by omega) (fun x hx => HD.out x (hLp.mem_iff.1 (by rcases List.mem_append.1 hx with h | h <;> simp [h]))) (fun x hx y hy => hcr x (by simp [hx]) y (by simp [hy])) sA0 sB0 hB hw a m b n l1.symm (by omega) (by omega) hLl.symm hl)
              have HO := Lib.hid (And.intro l1 (And.intro l2 (And.intro l3 (And.intro hbM (And.intro hHo.2.1 (And.intro hM2 hm))))))
              have HLv := Lib.hid hLv
              clear hB hw hH hHo hLl ek em hLp hcr sA0 sB0 l1 l2 l3 hLv hbM hM2 hm
              go_wp2_with fail
              refine M.out.mono ?_
              rintro e w2 ⟨rfl, C', hP, hS', hB2, hw2⟩
              have HP := Lib.hid hP
              have HS' := Lib.hid hS'
              have hbn : b ≤ 1000 := by omega
              clear hP hS' M
              go_wp2_with fail
              go_roundw
              case rel =>
                obtain ⟨l1, l2, l3, hbM, hak, hM2, hm⟩ := HO.out
                have hl2 := HP.out.length_eq
                rw [List.length_append] at hl2
                refine ⟨k + 1, b, b + M2, P ++ C' ++ Q, rfl, by first | rfl | go_num, by omega, hle, ⟨rfl, by rw [Nat.mul_succ]; omega, ?_⟩, hB2, hw2⟩
                have h1 := HLv.out
                rw [List.append_assoc P A B] at h1
                exact h1.step (c := 2) (by omega) (by omega) (.inl (by rw [List.length_append]; omega)) HP.out HS'.out
              case measure => have := HO.out.2.2.2.1; simp [intOf]; omega
            · have hbe : decide ((b : Int) ≤ (n : Int)) = false := by simp; omega
              have hbe2 : ¬ (b : Int) ≤ (n : Int) := by omega
              have hbM := hHo.1
              by_cases hmn : m < n
              · have hbm : decide ((m : Int) < (n : Int)) = true := by simp; omega
                have hbm2 : (m : Int) < (n : Int) := by omega
                have e1 : L = L.take a ++ ((L.drop a).take bs) ++ (L.drop m) ++ [] := by
                  rw [List.append_nil, hm, ← List.drop_drop, List.append_assoc, List.take_append_drop, List.take_append_drop]
                have e2 : L.take m = L.take a ++ ((L.drop a).take bs) := by rw [hm, List.take_add]
                have l1 : (L.take a).length = a := by rw [List.length_take]; omega
                have l2 : ((L.drop a).take bs).length = bs := by rw [List.length_take, List.length_drop]; omega
                have l3 : (L.drop m).length = n - m := by rw [List.length_drop]; omega
                rw [List.take_of_length_le (by omega)] at sB0
                have hLv := hHo.2.2
                rw [e2] at hcr
                clear e2 fa fm
                generalize L.take a = P at *
                generalize (L.drop a).take bs = A at *
                generalize L.drop m = B at *
                subst e1
                have M := Lib.hid (HM.out P A B [] cap wr (by omega) (by omega) (by omega) (fun x hx => HD.out x (hLp.mem_iff.1 (by rcases List.mem_append.1 hx with h | h <;> simp [h]))) (fun x hx y hy => hcr x (by simp [hx]) y hy) sA0 sB0 hB hw a m n n l1.symm (by omega) (by omega) hLl.symm hl)
                have HO := Lib.hid (And.intro l1 (And.intro l2 (And.intro l3 (And.intro hbM (And.intro hHo.2.1 (And.intro hM2 hm))))))
                have HLv := Lib.hid hLv
                clear hB hw hH hHo hLl ek em hLp hcr sA0 sB0 l1 l2 l3 hLv hbM hM2 hm
                go_wp2_with fail
                refine M.out.mono ?_
                rintro e w2 ⟨rfl, C', hP, hS', hB2, hw2⟩
                have HP := Lib.hid hP
                have HS' := Lib.hid hS'
                clear hP hS' M
                go_wp2_with fail
                go_roundw
                case rel =>
                  obtain ⟨l1, l2, l3, hbM, hak, hM2, hm⟩ := HO.out
                  refine ⟨M2, P ++ C' ++ [], by first | rfl | go_num, by omega, hM3, ?_, hB2, hw2⟩
                  have h1 := HLv.out
                  rw [List.append_assoc P A B] at h1
                  exact (h1.step (c := 2) (by omega) (by omega) (.inr ⟨by rw [List.length_append]; omega, rfl⟩) HP.out HS'.out).next _ (by rw [Nat.mul_succ, ← hak, ← HN.out]; omega)
                case measure => have := HM2.out; simp [intOf]; omega
              · have hbm : decide ((m : Int) < (n : Int)) = false := by simp; omega
                have hbm2 : ¬ (m : Int) < (n : Int) := by omega
                have HLv : Hid (Level le d L M2 (2 * M2) 0) := by
                  have h1 := hHo.2.2
                  have e1 : L = L.take a ++ L.drop a ++ [] := by rw [List.append_nil, List.take_append_drop]
                  have e3 : (L.drop a).take bs = L.drop a := List.take_of_length_le (by rw [List.length_drop]; omega)
                  rw [e3] at sA0
                  have l1 : (L.take a).length = a := by rw [List.length_take]; omega
                  have l2 : (L.drop a).length = n - a := by rw [List.length_drop]; omega
                  rw [e1] at h1
                  have h2 := (h1.step (c := 2) (by omega) (by have := hHo.2.1; omega) (.inr ⟨by omega, rfl⟩) (List.Perm.refl _) sA0).next (2 * M2) (by rw [Nat.mul_succ, ← hHo.2.1, ← HN.out]; omega)
                  rw [← e1] at h2
                  exact h2
                clear hH hHo hLl ek em hLp hcr sA0 sB0 hbM hM2 hm fa fm
                go_wp2_with fail
                go_roundw
                case rel => exact ⟨M2, L, by first | rfl | go_num, by have := HM2.out; omega, hM3, HLv, hB, hw⟩
                case measure => have := HM2.out; simp [intOf]; omega
        · have hbt : decide ((bs : Int) < (n : Int)) = false := by simp; omega
          have hbt2 : ¬ (bs : Int) < (n : Int) := by omega
          go_wp2_with fail
          go_end0
          have h := hLv.out.done (by have := HN.out; omega)
          exact ⟨rfl, L, h.1, h.2, hB, hw⟩
end Go.Proofs.Ytnfcigbiebbjdaa
namespace Go.Proofs.Ytnfcigbiebbjdaa
open Go.RowKit

set_option maxHeartbeats 1000000 in
theorem sort_any {g : Nat} {cb : Array Value} {cf : Int → Int → Int} {w0 : World} {R : Nat} {D : Int → Prop} (C : Cmp g cb cf w0 R D) {le : Int → Int → Prop} (T : TotLe le)
    (d : List Int) (cap : Nat) (w : World) (hD : ∀ x ∈ d, D x) (hA : d.Pairwise (Agrees cf le)) (hB : RowB w R d) (hw : w0.grownBy w (some R)) (n : Nat) (hn : n = d.length) (hl : n ≤ 1000) :
    Calls Try.prog 54 #[.slice (some ⟨R, 0, none⟩) n cap, .func (.func g) #[] cb] w fun e w' =>
      e = .returned (.tuple #[]) ∧ ∃ L, L.Perm d ∧ L.Pairwise le ∧ RowB w' R L ∧ w0.grownBy w' (some R) := by
  have M := Lib.hid (stable_any C T d cap w hD hA hB hw n hn hl)
  clear C T hD hA hB hw hn
  go_enter Try.func54, Try.ntmps54
  go_wp2_with fail
  refine M.out.mono ?_
  rintro e w2 ⟨rfl, L, h1, h2, h3, h4⟩
  have H1 := Lib.hid h1
  have H2 := Lib.hid h2
  clear h1 h2
  go_wp2_with fail
  go_end0
  exact ⟨rfl, L, H1.out, H2.out, h3, h4⟩

theorem isNaN_any (x : Int) (w : World) : Calls Try.prog 80 #[.int .i64 x] w fun e w' => e = .returned (.bool false) ∧ w = w' := by
  go_enter Try.func80, Try.ntmps80
  go_wp2
  go_ret
  exact ⟨rfl, rfl⟩
theorem compare_any (x y : Int) (w : World) : Calls Try.prog 56 #[.int .i64 x, .int .i64 y] w fun e w' => e = .returned (.int .i64 (cmpI x y)) ∧ w = w' := by
  go_enter Try.func56, Try.ntmps56
  by_cases h1 : x < y
  · have e1 : cmpI x y = -1 := by unfold cmpI; rw [if_pos h1]
    rw [e1]
    have hb1 : decide (x < y) = true := by simpa using h1
    clear e1
    go_wp2_with (go_at_call 80; refine (isNaN_any _ _).mono ?_; rintro e w' ⟨rfl, rfl⟩)
    go_ret
    exact ⟨rfl, rfl⟩
  · have hb1 : decide (x < y) = false := by simpa using h1
    by_cases h2 : y < x
    · have e1 : cmpI x y = 1 := by unfold cmpI; rw [if_neg h1, if_pos h2]
      rw [e1]
      have hb2 : decide (y < x) = true := by simpa using h2
      clear e1
      go_wp2_with (go_at_call 80; refine (isNaN_any _ _).mono ?_; rintro e w' ⟨rfl, rfl⟩)
      go_ret
      exact ⟨rfl, rfl⟩
    · have e1 : cmpI x y = 0 := by unfold cmpI; rw [if_neg h1, if_neg h2]
      rw [e1]
      have hb2 : decide (y < x) = false := by simpa using h2
      clear e1
      go_wp2_with (go_at_call 80; refine (isNaN_any _ _).mono ?_; rintro e w' ⟨rfl, rfl⟩)
      go_ret
      exact ⟨rfl, rfl⟩

theorem info3 : (Try.prog.info? 3).map (fun i => (i.zero, i.size, i.bytes)) = some (some (.int .i64 0), 1, 8) := by kernel_rfl
/-- A new row of zeros. -/
theorem make_ints (n : Nat) (hn : n ≤ 100000) (w : World) : (Instr.makeSlice 23 (.int .i64 (n : Int)) (.int .i64 (n : Int))).run Try.prog w = .ok (.slice (some ⟨w.heap.size, 0, none⟩) n n) (w.alloc (.cells (rowc (List.replicate n 0)) 3)) := by
  obtain ⟨i0, hi, hz0, hz1, hz2⟩ := info_parts info3
  have hr := run_make (P := Try.prog) w 23 3 i0 (.int .i64 0) Try.underlying23 hi hz0 .i64 .i64 n n (by omega) (Int.le_refl _) (by rw [hz2]; omega) (by omega)
  simp only [Int.toNat_natCast] at hr
  rw [hr, hz1, Nat.mul_one]
  have e : madeCells (Value.int .i64 0).cells n = rowc (List.replicate n 0) := by
    apply Array.toList_inj.1
    have := toList_madeCells_one (.int .i64 0) n
    show (madeCells #[.int .i64 0] n).toList = _
    rw [this]
    simp [rowc]
  rw [e]
theorem nums_get {n i : Nat} (h : i < n) : (nums n)[i]? = some (i : Int) := by simp [nums, h]

set_option maxHeartbeats 1000000 in
theorem numbers_any (n : Nat) (w : World) (hl : n ≤ 1000) : Calls Try.prog 53 #[.int .i64 n] w fun e w' => e = .returned (.slice (some ⟨w.heap.size, 0, none⟩) n n) ∧ RowB w' w.heap.size (nums n) ∧ Below w.heap.size w w' := by
  have hmk := make_ints n (by omega)
  go_enter Try.func53, Try.ntmps53
  go_wp2_with fail
  go_loopw [9] (fun u wr => ∃ k : Nat, k ≤ n ∧ u = .int .i64 k ∧ RowB wr w.heap.size (nums k ++ List.replicate (n - k) 0) ∧ Below w.heap.size w wr) (fun u _ => n - (intOf u).toNat)
  case atStart => exact ⟨0, Nat.zero_le _, rfl, by have h : RowB (w.alloc (.cells (rowc (List.replicate n 0)) 3)) w.heap.size (List.replicate n 0) := RowB.of (Blk.new w 3 _); simpa [nums] using h, (Below.refl _ _).alloc (Nat.le_refl _) _⟩
  case round =>
    clear hmk
    obtain ⟨k, hk, rfl, hB, hw⟩ := hrel
    by_cases hlt : k < n
    · have hbt : decide ((k : Int) < (n : Int)) = true := by simp; omega
      have hbt2 : (k : Int) < (n : Int) := by omega
      have f := hB.frozen
      have lR := hB.lt
      obtain ⟨x, hx⟩ : ∃ x, (nums k ++ List.replicate (n - k) (0 : Int))[k]? = some x := ⟨_, List.getElem?_eq_getElem (by rw [List.length_append, nums_length, List.length_replicate]; omega)⟩
      have c := hB.at_ hx
      have h1 := hB.set_ k (k : Int)
      have e : (nums k ++ List.replicate (n - k) 0).set k (k : Int) = nums (k + 1) ++ List.replicate (n - (k + 1)) 0 := by
        rw [List.set_append_right _ _ (by rw [nums_length]; omega), nums_length, Nat.sub_self, show n - k = (n - (k + 1)) + 1 by omega, List.replicate_succ, List.set_cons_zero, nums_succ]
        simp
      rw [e] at h1
      have H1 := Lib.hid h1
      clear h1 e hx
      go_wp2_with fail
      go_roundw
      case rel => exact ⟨k + 1, by omega, by go_num, H1.out, hw.setCell (Nat.le_refl _) _⟩
      case measure => simp [intOf]; omega
    · obtain rfl : k = n := by omega
      have hbt : decide ((k : Int) < (k : Int)) = false := by simp
      rw [Nat.sub_self, List.replicate_zero, List.append_nil] at hB
      go_wp2_with fail
      go_ret
      exact ⟨rfl, hB, hw⟩
end Go.Proofs.Ytnfcigbiebbjdaa
namespace Go.Proofs.Ytnfcigbiebbjdaa
open Go.RowKit

theorem iat_nat (l : List Int) (k : Nat) : iat l (k : Int) = l.getD k 0 := by unfold iat; rw [Int.toNat_natCast]
/-- No time is below 0 or above the greatest one. -/
def Small (l : List Int) : Prop := ∀ i, 0 ≤ iat l i ∧ iat l i ≤ 10000

set_option maxHeartbeats 1000000 in
theorem johnCmp_any (A B : Option Addr) (n c d b2 b3 i j : Nat) (f s : List Int) (W : World) (h2 : Blk W b2 23 #[.slice A n c]) (h3 : Blk W b3 23 #[.slice B n d]) (rA : RowH W A n f) (rB : RowH W B n s) (hi : i < n) (hj : j < n) :
    Calls Try.prog 59 #[.int .i64 i, .int .i64 j, .pointer (some ⟨b2, 0, none⟩), .pointer (some ⟨b3, 0, none⟩)] W fun e w' => e = .returned (.int .i64 (johnC f s i j)) ∧ Below W.heap.size W w' := by
  obtain ⟨g, rfl, hg, ci⟩ := rA.at_ hi
  obtain ⟨g', e1, _, cj⟩ := rA.at_ hj
  cases e1
  obtain ⟨k, rfl, hk, di⟩ := rB.at_ hi
  obtain ⟨k', e1, _, dj⟩ := rB.at_ hj
  cases e1
  have x2 := h2.cell
  have x3 := h3.cell
  have l2 := h2.lt
  have l3 := h3.lt
  have HJ : Hid (johnC f s i j = if f.getD i 0 < s.getD i 0 ∧ ¬ f.getD j 0 < s.getD j 0 then -1 else if f.getD j 0 < s.getD j 0 ∧ ¬ f.getD i 0 < s.getD i 0 then 1
    else if f.getD i 0 < s.getD i 0 then cmpI (f.getD i 0) (f.getD j 0) else cmpI (s.getD j 0) (s.getD i 0)) := by
    show _ = _
    unfold johnC
    simp only [iat_nat]
  clear rA rB h2 h3
  generalize f.getD i 0 = fi at *
  generalize f.getD j 0 = fj at *
  generalize s.getD i 0 = si at *
  generalize s.getD j 0 = sj at *
  rw [HJ.out]
  have hx := later_cell (w := W)
  go_enter Try.func59, Try.ntmps59
  by_cases p : fi < si <;> by_cases q : fj < sj
  · have e : (if fi < si ∧ ¬ fj < sj then (-1 : Int) else if fj < sj ∧ ¬ fi < si then 1 else if fi < si then cmpI fi fj else cmpI sj si) = cmpI fi fj := by simp [p, q]
    rw [e]
    clear e
    have hp1 : decide (fi < si) = true := by simpa using p
    have hq1 : decide (fj < sj) = true := by simpa using q
    go_wp2_with fail
    refine wp_region_later (by kernel_rfl) (by kernel_rfl) ?_
    repeat (go_big_quiet_step (fail))
    refine wpQuiet_nil ?_
    rintro w2 ⟨⟨_, hb2⟩, rfl⟩
    have y2 : ∀ o, w2.cell? ⟨b2, o, none⟩ = W.cell? ⟨b2, o, none⟩ := fun o => hb2.cell (p := ⟨b2, o, none⟩) l2
    have y3 : ∀ o, w2.cell? ⟨b3, o, none⟩ = W.cell? ⟨b3, o, none⟩ := fun o => hb2.cell (p := ⟨b3, o, none⟩) l3
    have yg : ∀ o, w2.cell? ⟨g, o, none⟩ = W.cell? ⟨g, o, none⟩ := fun o => hb2.cell (p := ⟨g, o, none⟩) hg
    have yk : ∀ o, w2.cell? ⟨k, o, none⟩ = W.cell? ⟨k, o, none⟩ := fun o => hb2.cell (p := ⟨k, o, none⟩) hk
    have sz := hb2.size
    clear hx
    have l2' : b2 < w2.heap.size := by omega
    have l3' : b3 < w2.heap.size := by omega
    have hg' : g < w2.heap.size := by omega
    have hk' : k < w2.heap.size := by omega
    have hx := later_cell (w := w2)
    go_wp2_with fail
    refine wp_region_later (by kernel_rfl) (by kernel_rfl) ?_
    repeat (go_big_quiet_step ((go_at_call 56; exact later_same ((compare_any _ _ _)))))
    refine wpQuiet_nil ?_
    rintro w3 ⟨⟨_, hb3⟩, rfl⟩
    go_wp2_with fail
    go_ret
    exact ⟨rfl, hb2.trans (hb3.mono sz)⟩
  · have e : (if fi < si ∧ ¬ fj < sj then (-1 : Int) else if fj < sj ∧ ¬ fi < si then 1 else if fi < si then cmpI fi fj else cmpI sj si) = -1 := by simp [p, q]
    rw [e]
    clear e
    have hp1 : decide (fi < si) = true := by simpa using p
    have hq1 : decide (fj < sj) = false := by simpa using q
    go_wp2_with fail
    refine wp_region_later (by kernel_rfl) (by kernel_rfl) ?_
    repeat (go_big_quiet_step (fail))
    refine wpQuiet_nil ?_
    rintro w2 ⟨⟨_, hb2⟩, rfl⟩
    go_wp2_with fail
    go_ret
    exact ⟨rfl, hb2⟩
  · have e : (if fi < si ∧ ¬ fj < sj then (-1 : Int) else if fj < sj ∧ ¬ fi < si then 1 else if fi < si then cmpI fi fj else cmpI sj si) = 1 := by simp [p, q]
    rw [e]
    clear e
    have hp1 : decide (fi < si) = false := by simpa using p
    have hq1 : decide (fj < sj) = true := by simpa using q
    go_wp2_with fail
    refine wp_region_later (by kernel_rfl) (by kernel_rfl) ?_
    repeat (go_big_quiet_step (fail))
    refine wpQuiet_nil ?_
    rintro w2 ⟨⟨_, hb2⟩, rfl⟩
    go_wp2_with fail
    go_ret
    exact ⟨rfl, hb2⟩
  · have e : (if fi < si ∧ ¬ fj < sj then (-1 : Int) else if fj < sj ∧ ¬ fi < si then 1 else if fi < si then cmpI fi fj else cmpI sj si) = cmpI sj si := by simp [p, q]
    rw [e]
    clear e
    have hp1 : decide (fi < si) = false := by simpa using p
    have hq1 : decide (fj < sj) = false := by simpa using q
    go_wp2_with fail
    refine wp_region_later (by kernel_rfl) (by kernel_rfl) ?_
    repeat (go_big_quiet_step (fail))
    refine wpQuiet_nil ?_
    rintro w2 ⟨⟨_, hb2⟩, rfl⟩
    have y2 : ∀ o, w2.cell? ⟨b2, o, none⟩ = W.cell? ⟨b2, o, none⟩ := fun o => hb2.cell (p := ⟨b2, o, none⟩) l2
    have y3 : ∀ o, w2.cell? ⟨b3, o, none⟩ = W.cell? ⟨b3, o, none⟩ := fun o => hb2.cell (p := ⟨b3, o, none⟩) l3
    have yg : ∀ o, w2.cell? ⟨g, o, none⟩ = W.cell? ⟨g, o, none⟩ := fun o => hb2.cell (p := ⟨g, o, none⟩) hg
    have yk : ∀ o, w2.cell? ⟨k, o, none⟩ = W.cell? ⟨k, o, none⟩ := fun o => hb2.cell (p := ⟨k, o, none⟩) hk
    have sz := hb2.size
    clear hx
    have l2' : b2 < w2.heap.size := by omega
    have l3' : b3 < w2.heap.size := by omega
    have hg' : g < w2.heap.size := by omega
    have hk' : k < w2.heap.size := by omega
    have hx := later_cell (w := w2)
    go_wp2_with fail
    refine wp_region_later (by kernel_rfl) (by kernel_rfl) ?_
    repeat (go_big_quiet_step ((go_at_call 56; exact later_same ((compare_any _ _ _)))))
    refine wpQuiet_nil ?_
    rintro w3 ⟨⟨_, hb3⟩, rfl⟩
    go_wp2_with fail
    go_ret
    exact ⟨rfl, hb2.trans (hb3.mono sz)⟩

theorem drop_step {o : List Int} {k : Nat} {x : Int} (h : o[k]? = some x) : o.drop k = x :: o.drop (k + 1) := by
  rw [List.drop_eq_getElem_cons (List.getElem?_eq_some_iff.1 h).1, (List.getElem?_eq_some_iff.1 h).2]
theorem getD_get {o : List Int} {k : Nat} (h : k < o.length) : o[k]? = some (o.getD k 0) := by
  rw [List.getD_eq_getElem?_getD, List.getElem?_eq_getElem h]
  rfl

set_option maxHeartbeats 1000000 in
/-- How long an order takes. -/
theorem length_any (A B O : Option Addr) (n c d m e : Nat) (f s o : List Int) (W : World) (rA : RowH W A n f) (rB : RowH W B n s) (rO : RowH W O m o) (sf : Small f) (ss : Small s) (ho : ∀ x ∈ o, 0 ≤ x ∧ x < (n : Int)) (hm : m ≤ 1000) :
    Calls Try.prog 60 #[.slice A n c, .slice B n d, .slice O m e] W fun e w' => e = .returned (.int .i64 (lenF f s 0 0 o)) ∧ W = w' := by
  have HF := Lib.hid sf
  have HS := Lib.hid ss
  have HO := Lib.hid ho
  clear sf ss ho
  go_enter Try.func60, Try.ntmps60
  go_wp2_with fail
  go_loopw [13, 7, 8] (fun i a b wr => ∃ (k : Nat) (t u : Int), k ≤ m ∧ i = .int .i64 k ∧ a = .int .i64 t ∧ b = .int .i64 u ∧ 0 ≤ t ∧ t ≤ 10000 * k ∧ 0 ≤ u ∧ u ≤ 30000 * k ∧ Hid (lenF f s 0 0 o = lenF f s t u (o.drop k)) ∧ W = wr) (fun i _ _ _ => m - (intOf i).toNat)
  case atStart => exact ⟨0, 0, 0, Nat.zero_le _, rfl, rfl, rfl, Int.le_refl _, by omega, Int.le_refl _, by omega, rfl, rfl⟩
  case round =>
    obtain ⟨k, t, u, hk, rfl, rfl, rfl, t0, t1, u0, u1, hL, rfl⟩ := hrel
    by_cases hlt : k < m
    · obtain ⟨go, rfl, hgo, co⟩ := rO.at_ hlt
      have hol : o[k]? = some (o.getD k 0) := getD_get (by rw [rO.1]; exact hlt)
      have hx := HO.out _ (List.mem_of_getElem? hol)
      have hdr := Lib.hid (drop_step hol)
      clear hol
      generalize o.getD k 0 = x at *
      obtain ⟨x0, x1⟩ := hx
      obtain ⟨i, rfl⟩ := Int.eq_ofNat_of_zero_le x0
      have hi : i < n := by omega
      obtain ⟨g, rfl, hg, ci⟩ := rA.at_ hi
      obtain ⟨h, rfl, hh, di⟩ := rB.at_ hi
      have bf := HF.out i
      have bs := HS.out i
      rw [iat_nat] at bf bs
      have HLs : Hid (lenF f s t u (o.drop k) = lenF f s (t + f.getD i 0) (max (t + f.getD i 0) u + s.getD i 0) (o.drop (k + 1))) := by
        show _ = _
        rw [hdr.out]
        simp only [lenF, iat_nat]
      generalize f.getD i 0 = p at *
      generalize s.getD i 0 = q at *
      obtain ⟨p0, p1⟩ := bf
      obtain ⟨q0, q1⟩ := bs
      have hbt : decide ((k : Int) < (m : Int)) = true := by simp; omega
      have hbt2 : (k : Int) < (m : Int) := by omega
      clear hdr x0 x1
      rcases Int.lt_trichotomy (t + p) u with hmx | hmx | hmx
      · have e1 : max (t + p) u = u := by omega
        rw [e1] at HLs
        clear e1
        go_wp2_with fail
        go_roundw
        case rel => exact ⟨k + 1, t + p, u + q, by omega, by go_num, rfl, rfl, by omega, by omega, by omega, by omega, hL.out.trans HLs.out, trivial⟩
        case measure => simp [intOf]; omega
      · have e1 : max (t + p) u = u := by omega
        rw [e1] at HLs
        have HE := Lib.hid hmx
        subst hmx
        clear e1
        go_wp2_with fail
        go_roundw
        case rel => exact ⟨k + 1, t + p, t + p + q, by omega, by go_num, rfl, rfl, by omega, by omega, by omega, by omega, hL.out.trans HLs.out, trivial⟩
        case measure => simp [intOf]; omega
      · have e1 : max (t + p) u = t + p := by omega
        rw [e1] at HLs
        clear e1
        have hn2 : ¬ (t + p < u) := by omega
        go_wp2_with fail
        go_roundw
        case rel => exact ⟨k + 1, t + p, t + p + q, by omega, by go_num, rfl, rfl, by omega, by omega, by omega, by omega, hL.out.trans HLs.out, trivial⟩
        case measure => simp [intOf]; omega
    · obtain rfl : k = m := by omega
      have hbt : decide ((k : Int) < (k : Int)) = false := by simp
      have he : o.drop k = [] := List.drop_of_length_le (by rw [rO.1]; exact Nat.le_refl _)
      have HE : Hid (lenF f s 0 0 o = u) := by
        show _ = _
        rw [hL.out, he]
        rfl
      clear he
      go_wp2_with fail
      go_ret
      exact ⟨by rw [HE.out]; rfl, rfl⟩

set_option maxHeartbeats 1000000 in
/-- How long an order takes, as the document says. -/
theorem rLength_any (A B O : Option Addr) (n c d m e : Nat) (f s o : List Int) (W : World) (rA : RowH W A n f) (rB : RowH W B n s) (rO : RowH W O m o) (sf : Small f) (ss : Small s) (ho : ∀ x ∈ o, 0 ≤ x ∧ x < (n : Int)) (hm : m ≤ 1000) :
    Calls Try.prog 26 #[.slice A n c, .slice B n d, .slice O m e] W fun e w' => e = .returned (.int .i64 (lenF f s 0 0 o)) ∧ W = w' := by
  have HF := Lib.hid sf
  have HS := Lib.hid ss
  have HO := Lib.hid ho
  clear sf ss ho
  go_enter Try.func26, Try.ntmps26
  go_wp2_with fail
  go_loopw [9, 7, 8] (fun i a b wr => ∃ (k : Nat) (t u : Int), k ≤ m ∧ i = .int .i64 k ∧ a = .int .i64 t ∧ b = .int .i64 u ∧ 0 ≤ t ∧ t ≤ 10000 * k ∧ 0 ≤ u ∧ u ≤ 30000 * k ∧ Hid (lenF f s 0 0 o = lenF f s t u (o.drop k)) ∧ W = wr) (fun i _ _ _ => m - (intOf i).toNat)
  case atStart => exact ⟨0, 0, 0, Nat.zero_le _, rfl, rfl, rfl, Int.le_refl _, by omega, Int.le_refl _, by omega, rfl, rfl⟩
  case round =>
    obtain ⟨k, t, u, hk, rfl, rfl, rfl, t0, t1, u0, u1, hL, rfl⟩ := hrel
    by_cases hlt : k < m
    · obtain ⟨go, rfl, hgo, co⟩ := rO.at_ hlt
      have hol : o[k]? = some (o.getD k 0) := getD_get (by rw [rO.1]; exact hlt)
      have hx := HO.out _ (List.mem_of_getElem? hol)
      have hdr := Lib.hid (drop_step hol)
      clear hol
      generalize o.getD k 0 = x at *
      obtain ⟨x0, x1⟩ := hx
      obtain ⟨i, rfl⟩ := Int.eq_ofNat_of_zero_le x0
      have hi : i < n := by omega
      obtain ⟨g, rfl, hg, ci⟩ := rA.at_ hi
      obtain ⟨h, rfl, hh, di⟩ := rB.at_ hi
      have bf := HF.out i
      have bs := HS.out i
      rw [iat_nat] at bf bs
      have HLs : Hid (lenF f s t u (o.drop k) = lenF f s (t + f.getD i 0) (max (t + f.getD i 0) u + s.getD i 0) (o.drop (k + 1))) := by
        show _ = _
        rw [hdr.out]
        simp only [lenF, iat_nat]
      generalize f.getD i 0 = p at *
      generalize s.getD i 0 = q at *
      obtain ⟨p0, p1⟩ := bf
      obtain ⟨q0, q1⟩ := bs
      have hbt : decide ((k : Int) < (m : Int)) = true := by simp; omega
      have hbt2 : (k : Int) < (m : Int) := by omega
      clear hdr x0 x1
      rcases Int.lt_trichotomy (t + p) u with hmx | hmx | hmx
      · have e1 : max (t + p) u = u := by omega
        rw [e1] at HLs
        clear e1
        go_wp2_with fail
        go_roundw
        case rel => exact ⟨k + 1, t + p, u + q, by omega, by go_num, rfl, rfl, by omega, by omega, by omega, by omega, hL.out.trans HLs.out, trivial⟩
        case measure => simp [intOf]; omega
      · have e1 : max (t + p) u = u := by omega
        rw [e1] at HLs
        have HE := Lib.hid hmx
        subst hmx
        clear e1
        go_wp2_with fail
        go_roundw
        case rel => exact ⟨k + 1, t + p, t + p + q, by omega, by go_num, rfl, rfl, by omega, by omega, by omega, by omega, hL.out.trans HLs.out, trivial⟩
        case measure => simp [intOf]; omega
      · have e1 : max (t + p) u = t + p := by omega
        rw [e1] at HLs
        clear e1
        have hn2 : ¬ (t + p < u) := by omega
        go_wp2_with fail
        go_roundw
        case rel => exact ⟨k + 1, t + p, t + p + q, by omega, by go_num, rfl, rfl, by omega, by omega, by omega, by omega, hL.out.trans HLs.out, trivial⟩
        case measure => simp [intOf]; omega
    · obtain rfl : k = m := by omega
      have hbt : decide ((k : Int) < (k : Int)) = false := by simp
      have he : o.drop k = [] := List.drop_of_length_le (by rw [rO.1]; exact Nat.le_refl _)
      have HE : Hid (lenF f s 0 0 o = u) := by
        show _ = _
        rw [hL.out, he]
        rfl
      clear he
      go_wp2_with fail
      go_ret
      exact ⟨by rw [HE.out]; rfl, rfl⟩
end Go.Proofs.Ytnfcigbiebbjdaa
namespace Go.Proofs.Ytnfcigbiebbjdaa
open Go.RowKit

theorem RowH.rowI {w : World} {A : Option Addr} {n : Nat} {l : List Int} (h : RowH w A n l) : RowI w A n l :=
  ⟨h.1, fun hn => by
    obtain ⟨g, e, hg, hc⟩ := h.2 hn
    exact ⟨_, e, hg, fun k v hk => by rw [Addr.add_lit, Nat.zero_add]; exact hc k v hk⟩⟩
theorem ints_one (l : List Int) : ∀ u ∈ l.map (Value.int .i64), u.oneCell' = true := by
  intro u hu
  obtain ⟨x, _, rfl⟩ := List.mem_map.1 hu
  rfl
theorem rowI_news {w : World} {a : Addr} {n : Nat} {l : List Int} (h : RowI w (some a) n l) (hn : 0 < n) : ∀ j u, (l.map (Value.int .i64))[j]? = some u → w.cell? (a.add j) = some u := by
  obtain ⟨a', e, hg, hc⟩ := h.2 hn
  cases e
  intro j u hj
  rw [List.getElem?_map] at hj
  cases hx : l[j]? with
  | none => rw [hx] at hj; simp at hj
  | some x =>
    rw [hx] at hj
    simp at hj
    rw [hc j x hx, hj]
theorem app_ints (w : World) {ops : Array Oper} {rest : List Oper} {o : Oper} {a : Act} {Q : Exit → Act → World → Prop} (hgd : o.guard = none) (s x : Operand)
    (ho : o.op = .call { callee := .builtin .append, args := #[s, x], argTypes := #[23, 23] }) (base : Nat) (v : Value) (n : Nat) (xs : List Int) (hs : a.eval s = v) (hown : w.ownsRow base 3 1 v n (xs.map (Value.int .i64)))
    (ao : Option Addr) (m c : Nat) (l : List Int) (hx : a.eval x = .slice ao m c) (hr : RowI w ao m l) (hn : n + m ≤ 100000) (hbase : base ≤ w.heap.size)
    (h : ∀ v' w', w'.ownsRow base 3 1 v' (n + m) ((xs ++ l).map (Value.int .i64)) → w.grownBy w' v.ownBlock → wpList Try.prog ops Q rest (a.put o.dst v') w') : wpList Try.prog ops Q (o :: rest) a w := by
  obtain ⟨i0, hi, hz0, hz1, hz2⟩ := info_parts info3
  rcases Nat.eq_zero_or_pos m with z | z
  · subst z
    have hl : l = [] := List.eq_nil_of_length_eq_zero hr.1
    subst hl
    have hsrc : Src Try.prog i0.size 23 (.slice ao 0 c) 0 [] w := by
      cases ao with
      | none => exact Src.ofNil w Try.underlying23 c
      | some ad => exact Src.ofSlice w Try.underlying23 ad 0 c [] (by simp) (by simp) (by simp)
    obtain ⟨b, sl, sc, hv, hle⟩ : ∃ b sl sc, v = .slice b sl sc ∧ sl ≤ sc := by
      rcases hown.2 with ⟨h1, _⟩ | ⟨g, cap, cur, h1, _, _, h2, _⟩
      · exact ⟨_, _, _, h1, Nat.le_refl _⟩
      · exact ⟨_, _, _, h1, h2⟩
    have hrun := run_append_nothing (P := Try.prog) w 23 23 o.type 3 i0 Try.underlying23 hi b sl sc hle _ hsrc
    rw [← hv] at hrun
    refine wpList_plain hgd fun K hK => ?_
    unfold Oper.wp
    simp [execOp, ho, resolve, invoke, builtin, hs, hx, hrun, Result.andThen]
    exact hK _ _ (h v w (by simpa using hown) (World.grownBy.refl _ _))
  · obtain ⟨ad, e, _, _⟩ := hr.2 z
    subst e
    refine wpList_append_lies w hgd s x 23 ho base 3 i0 (.int .i64 0) 1 8 Try.underlying23 hi hz0 hz1 hz2 rfl (by decide) v n _ hs hown ad m c (l.map (Value.int .i64)) hx (by rw [List.length_map, hr.1]; omega) (rowI_news hr z) (ints_one _) z (by unfold maxLen; omega) (by omega) hbase _ rfl ?_
    intro g cap w' hown' hgr _ _
    exact h _ _ (by rw [List.map_append]; exact hown') hgr
end Go.Proofs.Ytnfcigbiebbjdaa
namespace Go.Proofs.Ytnfcigbiebbjdaa
open Go.RowKit

set_option maxHeartbeats 2000000 in
theorem grow_any (n : Nat) (w : World) (hn : n ≤ 2000) :
    Calls Try.prog 93 #[.slice none 0 0, .int .i64 n] w fun e w' => ∃ v, e = .returned v ∧ w'.ownsRow w.heap.size 3 1 v 0 [] ∧ Below w.heap.size w w' := by
  by_cases h0 : n = 0
  · subst h0
    go_enter Try.func93, Try.ntmps93
    go_wp2_with fail
    go_ret
    exact ⟨_, rfl, World.ownsRow_nil _ _ _ _, Below.refl _ _⟩
  · obtain ⟨i0, hi, hz0, hz1, hz2⟩ := info_parts info3
    have hrz : ∀ ty, (Builtin.append_ #[23, 3] ty #[.slice none 0 0, .int .i64 (n : Int)]).run Try.prog w =
        .ok (.slice (some ⟨w.heap.size, 0, none⟩) n (grownCap w n 0 3)) (w.drew.alloc (.cells (#[] ++ Builtin.zeroCells (Value.int .i64 0).cells n ++ Builtin.zeroCells (Value.int .i64 0).cells (grownCap w n 0 3 - n)) 3)) := fun ty => by
      have hold : (Builtin.firstCells i0.size 0 (.slice none 0 0)).run Try.prog w.drew = .ok ([] : List Value).toArray w.drew := run_firstCells_none w.drew i0.size 0 0 0
      have h := Lib.run_append_grow_zeros w 23 3 ty 3 i0 (.int .i64 0) .i64 .i64 Try.underlying23 Try.underlying3 hi hz0 none 0 0 [] hold n (by omega) (by omega) (by omega) (by omega) (by rw [hz2]; omega) (growslice_fits (by omega) (by rw [hz2]; omega))
      simpa using h
    have hG := grownCap_ge w n 0 3
    obtain ⟨G, hGe⟩ : ∃ G, G = grownCap w n 0 3 := ⟨_, rfl⟩
    rw [← hGe] at hrz hG
    have hG63 : G ≤ maxLen := by
      have := grownCap_le_maxLen w n 0 3 (by unfold maxLen; omega)
      rwa [← hGe] at this
    have hcs : (#[] ++ Builtin.zeroCells (Value.int .i64 0).cells n ++ Builtin.zeroCells (Value.int .i64 0).cells (G - n) : Array Value).size = G * 1 := by
      simp [Builtin.zeroCells, Value.cells]
      omega
    generalize (#[] ++ Builtin.zeroCells (Value.int .i64 0).cells n ++ Builtin.zeroCells (Value.int .i64 0).cells (G - n) : Array Value) = cs at *
    have hb63 : (G : Int) ≤ 9223372036854775807 := by unfold maxLen at hG63; omega
    have HG := Lib.hid (And.intro hG63 hcs)
    clear hGe hi hz0 hz1 hz2 hG63 hcs
    have hn0 : (0 : Int) < (n : Int) := by omega
    go_enter Try.func93, Try.ntmps93
    go_wp2_with (at_builtin; refine Lib.wpList_append_run _ rfl _ _ _ _ rfl _ _ rfl rfl _ _ (hrz _) ?_)
    all_goals (go_ret; exact ⟨_, rfl, World.ownsRow_made (base := w.heap.size) (e := 3) (size := 1) w.drew cs G (by simp) HG.out.1 HG.out.2, ((Below.refl _ _).drew).alloc (by simp) _⟩)

/-- What Concat has put together. -/
def CatK (w0 : World) (f s : List Int) (k : Nat) (v : Value) (wr : World) : Prop :=
  wr.ownsRow w0.heap.size 3 1 v (if k = 0 then 0 else if k = 1 then f.length else f.length + s.length) ((if k = 0 then [] else if k = 1 then f else f ++ s).map (Value.int .i64)) ∧ Below w0.heap.size w0 wr

set_option maxHeartbeats 4000000 in
theorem concat_any (A B : Option Addr) (n c m d g0 : Nat) (f s : List Int) (w : World) (hG : Blk w g0 23 #[.slice A n c, .slice B m d]) (rA : RowH w A n f) (rB : RowH w B m s) (hn : n ≤ 1000) (hm : m ≤ 1000) :
    Calls Try.prog 81 #[.slice (some ⟨g0, 0, none⟩) 2 2] w fun e w' => ∃ v, e = .returned v ∧ CatK w f s 2 v w' := by
  have lA := Lib.hid rA.1
  have lB := Lib.hid rB.1
  go_enter Try.func81, Try.ntmps81
  go_wp2_with fail
  go_loopw [3, 11] (fun t i wr => ∃ (k : Nat), k ≤ 2 ∧ i = .int .i64 k ∧ t = .int .i64 (if k = 0 then 0 else if k = 1 then (n : Int) else (n : Int) + m) ∧ w = wr) (fun _ i _ => 2 - (intOf i).toNat)
  case atStart => exact ⟨0, by omega, rfl, rfl, rfl⟩
  case round =>
    obtain ⟨k, hk, rfl, rfl, rfl⟩ := hrel
    have cG := hG.cell
    have zG := hG.lt
    rcases (show k = 0 ∨ k = 1 ∨ k = 2 by omega) with rfl | rfl | rfl
    · simp only [if_true]
      go_wp2_with fail
      go_roundw
      case rel => exact ⟨1, by omega, rfl, by simp, trivial⟩
      case measure => simp [intOf]
    · simp only [if_true, if_neg (show ¬ (1 : Nat) = 0 by omega)]
      have hs : ¬ ((n : Int) + (m : Int) < 0) := by omega
      have hsd : decide ((n : Int) + (m : Int) < 0) = false := by simp; omega
      go_wp2_with fail
      go_roundw
      case rel => exact ⟨2, by omega, rfl, by simp, trivial⟩
      case measure => simp [intOf]
    · simp only [if_neg (show ¬ (2 : Nat) = 0 by omega), if_neg (show ¬ (2 : Nat) = 1 by omega)]
      obtain ⟨N, hN⟩ : ∃ N, N = n + m := ⟨_, rfl⟩
      have hsum : (n : Int) + (m : Int) = (N : Int) := by omega
      have hnm : N ≤ 2000 := by omega
      rw [hsum]
      clear hsum hN
      go_wp2_with fail
      refine (grow_any N _ hnm).mono ?_
      rintro e w1 ⟨v, rfl, hown, hb1⟩
      have hG1 := hG.later hb1
      have cG1 := hG1.cell
      have zG1 := hG1.lt
      clear cG zG
      go_wp2_with fail
      go_loopw [6, 27] (fun v i wr => ∃ (k : Nat), k ≤ 2 ∧ i = .int .i64 k ∧ CatK w f s k v wr) (fun _ i _ => 2 - (intOf i).toNat)
      case atStart => exact ⟨0, by omega, rfl, hown, hb1⟩
      case round =>
        clear hown hb1 hG1 cG1 zG1
        obtain ⟨k, hk, rfl, hK⟩ := hrel
        obtain ⟨v, hv⟩ : ∃ v, v = u6 := ⟨_, rfl⟩
        subst hv
        obtain ⟨hown, hb⟩ := hK
        have hG2 := hG.later hb
        have rA2 := rA.later hb
        have rB2 := rB.later hb
        have cG := hG2.cell
        have zG := hG2.lt
        have sz := hb.size
        rcases (show k = 0 ∨ k = 1 ∨ k = 2 by omega) with rfl | rfl | rfl
        · simp only [if_true] at hown
          go_wp2_with (at_builtin; refine app_ints _ rfl (.tmp 31) (.tmp 32) rfl w.heap.size _ _ _ rfl hown _ n c f rfl rA2.rowI (by have := lA.out; omega) sz ?_)
          intro v2 w2 hown2 hgr
          have hb2 := hb.grown hgr sz (fun k hk => (hown.lt k hk).1)
          go_wp2_with fail
          go_roundw
          case rel =>
            refine ⟨1, by omega, rfl, ?_, hb2⟩
            simpa [lA.out] using hown2
          case measure => simp [intOf]
        · simp only [if_true, if_neg (show ¬ (1 : Nat) = 0 by omega)] at hown
          go_wp2_with (at_builtin; refine app_ints _ rfl (.tmp 31) (.tmp 32) rfl w.heap.size _ _ _ rfl hown _ m d s rfl rB2.rowI (by have := lA.out; omega) sz ?_)
          intro v2 w2 hown2 hgr
          have hb2 := hb.grown hgr sz (fun k hk => (hown.lt k hk).1)
          go_wp2_with fail
          go_roundw
          case rel =>
            refine ⟨2, by omega, rfl, ?_, hb2⟩
            simpa [lB.out] using hown2
          case measure => simp [intOf]
        · go_wp2_with fail
          go_ret
          exact ⟨_, rfl, hown, hb⟩
end Go.Proofs.Ytnfcigbiebbjdaa
namespace Go.Proofs.Ytnfcigbiebbjdaa
open Go.RowKit

theorem own_slice {w : World} {base E s : Nat} {v : Value} {n : Nat} {xs : List Value} (h : w.ownsRow base E s v n xs) : ∃ A c, v = .slice A n c := by
  rcases h.2 with ⟨h1, h2⟩ | ⟨g, cap, cur, h1, _⟩
  · exact ⟨none, 0, by rw [h1, h2]⟩
  · exact ⟨_, _, h1⟩
theorem small_mem {l : List Int} (h : Small l) : ∀ x ∈ l, 0 ≤ x ∧ x ≤ 10000 := fun x hx => by
  obtain ⟨k, hk⟩ := List.getElem?_of_mem hx
  have := h k
  rw [iat_nat, List.getD_eq_getElem?_getD, hk] at this
  exact this

set_option maxHeartbeats 1000000 in
theorem benches_yes (A B : Option Addr) (n c d : Nat) (f s : List Int) (w : World) (rA : RowH w A n f) (rB : RowH w B n s) (sf : Small f) (ss : Small s) (hn : n ≤ 64) :
    Calls Try.prog 58 #[.slice A n c, .slice B n d] w fun e w' => e = .returned (.bool true) ∧ Below w.heap.size w w' := by
  have hb0 : Below w.heap.size w (w.alloc (.cells #[.slice A n c, .slice B n d] 23)) := (Below.refl _ _).alloc (Nat.le_refl _) _
  have M := Lib.hid (concat_any A B n c n d w.heap.size f s _ (Blk.new w 23 #[.slice A n c, .slice B n d]) (rA.later hb0) (rB.later hb0) (by omega) (by omega))
  have HA := Lib.hid (small_mem sf)
  have HB := Lib.hid (small_mem ss)
  have hlA := rA.1
  have hlB := rB.1
  clear rA rB sf ss
  go_enter Try.func58, Try.ntmps58
  go_wp2_with fail
  refine M.out.mono ?_
  rintro e w1 ⟨v, rfl, hown, hb1⟩
  simp only [if_neg (show ¬ (2 : Nat) = 0 by omega), if_neg (show ¬ (2 : Nat) = 1 by omega), hlA, hlB] at hown
  obtain ⟨A', c', rfl⟩ := own_slice hown
  have hR := own_rowH hown
  have hb2 := hb0.trans (hb1.mono (by simp))
  have HF : Hid (∀ x ∈ f ++ s, 0 ≤ x ∧ x ≤ 10000) := fun x hx => by
    rcases List.mem_append.1 hx with h | h
    · exact HA.out x h
    · exact HB.out x h
  clear hown hb0 hb1 M HA HB hlA hlB
  generalize f ++ s = L at *
  obtain ⟨N, hN⟩ : ∃ N, N = n + n := ⟨_, rfl⟩
  rw [← hN] at hR ⊢
  have hN1 : N ≤ 128 := by omega
  clear hN
  go_wp2_with fail
  go_loopw [12] (fun i wr => ∃ k : Nat, k ≤ N ∧ i = .int .i64 k ∧ w1 = wr) (fun i _ => N - (intOf i).toNat)
  case atStart => exact ⟨0, Nat.zero_le _, rfl, rfl⟩
  case round =>
    obtain ⟨k, hk, rfl, rfl⟩ := hrel
    by_cases hlt : k < N
    · have hbt : decide ((k : Int) < (N : Int)) = true := by simp; omega
      have hbt2 : (k : Int) < (N : Int) := by omega
      obtain ⟨g, rfl, hg, hc⟩ := hR.at_ hlt
      have hx := HF.out _ (List.mem_of_getElem? (getD_get (by rw [hR.1]; exact hlt)))
      generalize L.getD k 0 = x at *
      obtain ⟨x0, x1⟩ := hx
      have d1 : decide (x < 0) = false := by simp; omega
      have d2 : decide (x > 10000) = false := by simp; omega
      have d3 : ¬ (10000 : Int) < x := by omega
      have d4 : ¬ x < 0 := by omega
      go_wp2_with fail
      go_roundw
      case rel => exact ⟨k + 1, by omega, by go_num, trivial⟩
      case measure => simp [intOf]; omega
    · obtain rfl : k = N := by omega
      have hbt : decide ((k : Int) < (k : Int)) = false := by simp
      have d1 : ((n : Int) == (n : Int)) = true := by simp
      have d2 : decide ((n : Int) ≤ 64) = true := by simp; omega
      have d3 : (n : Int) ≤ 64 := by omega
      go_wp2_with fail
      go_ret
      exact ⟨rfl, hb2⟩
end Go.Proofs.Ytnfcigbiebbjdaa
namespace Go.Proofs.Ytnfcigbiebbjdaa
open Go.RowKit

theorem RowH.past {w w' : World} {A : Option Addr} {n : Nat} {l : List Int} {r : Nat} (h : RowH w A n l) (hb : w.grownBy w' (some r)) (hr : 0 < n → ∀ g, A = some ⟨g, 0, none⟩ → g ≠ r) : RowH w' A n l :=
  ⟨h.1, fun hn => by
    obtain ⟨g, e, hg, hc⟩ := h.2 hn
    have hne := hr hn g e
    refine ⟨g, e, Nat.lt_of_lt_of_le hg hb.size, fun k v hk => ?_⟩
    have hbk := hb.block g hg (by simp; exact hne)
    have h0 := hc k v hk
    simp only [World.cell?] at h0 ⊢
    rw [hbk]
    exact h0⟩
theorem results_tmp3 {fn : Func} {t u v : Tmp} (h : fn.results = #[.tmp t, .tmp u, .tmp v]) (tmps : Array Value) (P : Program) (w : World) :
    (results fn tmps).run P w = .ok (.tuple #[tmps.getD t undef, tmps.getD u undef, tmps.getD v undef]) w := by simp [results, h]
/-- What Johnson returns. -/
def JohnR (w : World) (f s : List Int) (n : Nat) (e : Ending) (w' : World) : Prop :=
  ∃ (R : Nat) (o : List Int), e = .returned (.tuple #[.slice (some ⟨R, 0, none⟩) n n, .int .i64 (lenF f s 0 0 o), .int .i64 0]) ∧ o.Perm (nums n) ∧ o.Pairwise (leOf (johnC f s)) ∧ RowH w' (some ⟨R, 0, none⟩) n o ∧ Below w.heap.size w w'

theorem john_cmp {w0 : World} {A B : Option Addr} {n c d b2 b3 R : Nat} {f s : List Int} (h2 : Blk w0 b2 23 #[.slice A n c]) (h3 : Blk w0 b3 23 #[.slice B n d]) (rA : RowH w0 A n f) (rB : RowH w0 B n s) (n2 : b2 ≠ R) (n3 : b3 ≠ R)
    (nA : 0 < n → ∀ g, A = some ⟨g, 0, none⟩ → g ≠ R) (nB : 0 < n → ∀ g, B = some ⟨g, 0, none⟩ → g ≠ R) : Cmp 59 #[.pointer (some ⟨b2, 0, none⟩), .pointer (some ⟨b3, 0, none⟩)] (johnC f s) w0 R (fun x => 0 ≤ x ∧ x < (n : Int)) where
  enters := enters_of Try.func59 (by kernel_rfl) rfl
  tells := by
    rintro W hW x y ⟨x0, x1⟩ ⟨y0, y1⟩
    obtain ⟨i, rfl⟩ := Int.eq_ofNat_of_zero_le x0
    obtain ⟨j, rfl⟩ := Int.eq_ofNat_of_zero_le y0
    have hn : 0 < n := by omega
    exact johnCmp_any A B n c d b2 b3 i j f s W (h2.grown hW (by simp; exact n2)) (h3.grown hW (by simp; exact n3)) (rA.past hW nA) (rB.past hW nB) (by omega) (by omega)
theorem nums_agrees (cf : Int → Int → Int) (n : Nat) : (nums n).Pairwise (Agrees cf (leOf cf)) := by
  rw [List.pairwise_iff_getElem]
  intro i j hi hj hij
  have e1 : (nums n)[i] = (i : Int) := by
    have := nums_get (n := n) (i := i) (by rwa [nums_length] at hi)
    exact (List.getElem?_eq_some_iff.1 this).2
  have e2 : (nums n)[j] = (j : Int) := by
    have := nums_get (n := n) (i := j) (by rwa [nums_length] at hj)
    exact (List.getElem?_eq_some_iff.1 this).2
  rw [e1, e2]
  exact Swo.agree (by omega)

set_option maxHeartbeats 1000000 in
theorem Johnson_yes (A B : Option Addr) (n c d : Nat) (f s : List Int) (w : World) (rA : RowH w A n f) (rB : RowH w B n s) (sf : Small f) (ss : Small s) (hn : n ≤ 64) :
    Calls Try.prog 25 #[.slice A n c, .slice B n d] w (JohnR w f s n) := by
  have HA := Lib.hid sf
  have HB := Lib.hid ss
  have hw2 : Below w.heap.size w ((w.alloc (.cells #[.slice A n c] 23)).alloc (.cells #[.slice B n d] 23)) := ((Below.refl _ _).alloc (Nat.le_refl _) _).alloc (by simp) _
  have k2 : Blk ((w.alloc (.cells #[.slice A n c] 23)).alloc (.cells #[.slice B n d] 23)) w.heap.size 23 #[.slice A n c] := (Blk.new w 23 #[.slice A n c]).alloc _
  have k3 : Blk ((w.alloc (.cells #[.slice A n c] 23)).alloc (.cells #[.slice B n d] 23)) (w.heap.size + 1) 23 #[.slice B n d] := by
    have h := Blk.new (w.alloc (.cells #[.slice A n c] 23)) 23 #[.slice B n d]
    rwa [World.size_alloc] at h
  have M1 := Lib.hid (benches_yes A B n c d f s _ (rA.later hw2) (rB.later hw2) sf ss hn)
  have gA := Lib.hid (show 0 < n → ∀ g, A = some ⟨g, 0, none⟩ → g < w.heap.size from fun h g e => by obtain ⟨g', e', hg, _⟩ := rA.2 h; rw [e] at e'; cases e'; exact hg)
  have gB := Lib.hid (show 0 < n → ∀ g, B = some ⟨g, 0, none⟩ → g < w.heap.size from fun h g e => by obtain ⟨g', e', hg, _⟩ := rB.2 h; rw [e] at e'; cases e'; exact hg)
  clear sf ss
  go_enter Try.func25, Try.ntmps25
  go_wp2_with fail
  refine M1.out.mono ?_
  rintro e w1 ⟨rfl, hb1⟩
  have c2 := (k2.later hb1).cell
  have c3 := (k3.later hb1).cell
  have z3 := (k3.later hb1).lt
  have hw1 := hw2.trans (hb1.mono (by simp; omega))
  go_wp2_with fail
  refine (numbers_any n w1 (by omega)).mono ?_
  rintro e w2 ⟨rfl, hB, hb2⟩
  have hw2' := hw1.trans (hb2.mono hw1.size)
  have q2 := (k2.later hb1).later hb2
  have q3 := (k3.later hb1).later hb2
  have rA2 := rA.later hw2'
  have rB2 := rB.later hw2'
  obtain ⟨R, hR⟩ : ∃ R, R = w1.heap.size := ⟨_, rfl⟩
  rw [← hR] at hB z3 ⊢
  have hRw : w.heap.size ≤ R := by omega
  have C := john_cmp (R := R) q2 q3 rA2 rB2 (by omega) (by omega) (fun h g e => by have := gA.out h g e; omega) (fun h g e => by have := gB.out h g e; omega)
  have M2 := Lib.hid (sort_any C (john_swo f s).tot (nums n) n w2 (fun x hx => mem_nums.1 hx) (nums_agrees _ n) hB (World.grownBy.refl _ _) n (nums_length n).symm (by omega))
  have x2 := q2.cell
  have x3 := q3.cell
  have y3 := q3.lt
  have HR := Lib.hid hR
  clear c2 c3 hB C hR
  go_wp2_with fail
  refine M2.out.mono ?_
  rintro e w3 ⟨rfl, o, hP, hS, hB3, hg3⟩
  have HP := Lib.hid hP
  have HS := Lib.hid hS
  have p2 := q2.grown hg3 (by simp; omega)
  have p3 := q3.grown hg3 (by simp; omega)
  have rA3 := rA2.past hg3 fun h g e => by have := gA.out h g e; omega
  have rB3 := rB2.past hg3 fun h g e => by have := gB.out h g e; omega
  have rO := RowH.of_row (n := n) hB3 (by rw [HP.out.length_eq, nums_length])
  have M3 := Lib.hid (length_any A B (some ⟨R, 0, none⟩) n c d n n f s o w3 rA3 rB3 rO HA.out HB.out (fun x hx => mem_nums.1 (HP.out.mem_iff.1 hx)) (by omega))
  have v2 := p2.cell
  have v3 := p3.cell
  have u3 := p3.lt
  have hfin : Below w.heap.size w w3 := hw2'.trans (below_of_only hg3 hRw hw2'.size)
  clear x2 x3 y3 hP hS M2
  go_wp2_with fail
  refine M3.out.mono ?_
  rintro e w' ⟨rfl, rfl⟩
  go_wp2_with fail
  (try simp only [Exit.inBlock, Exit.then]); refine bodyPost_ret (results_tmp3 rfl _ _ _) rfl ?_
  exact ⟨R, o, rfl, HP.out, HS.out, rO, hfin⟩
end Go.Proofs.Ytnfcigbiebbjdaa
namespace Go.Proofs.Ytnfcigbiebbjdaa
open Go.RowKit

/-- Five cells are a job. -/
def JobAt (w : World) (g p : Nat) (j : Jb) : Prop :=
  w.cell? ⟨g, p, none⟩ = some (.int .i64 j.work) ∧ w.cell? ⟨g, p + 1, none⟩ = some (.int .i64 j.rel) ∧ w.cell? ⟨g, p + 2, none⟩ = some (.int .i64 j.due) ∧ w.cell? ⟨g, p + 3, none⟩ = some (.int .i64 j.wt) ∧
  ∃ B m c, w.cell? ⟨g, p + 4, none⟩ = some (.slice B m c) ∧ RowH w B m j.after
/-- A slice of jobs that starts at the head of a block. -/
def JobsH (w : World) (A : Option Addr) (n : Nat) (l : List Jb) : Prop :=
  l.length = n ∧ (0 < n → ∃ g, A = some ⟨g, 0, none⟩ ∧ g < w.heap.size ∧ ∀ (k : Nat) (j : Jb), l[k]? = some j → JobAt w g (k * 5) j)
theorem JobAt.later {w w' : World} {g p : Nat} {j : Jb} (h : JobAt w g p j) (hg : g < w.heap.size) (hb : Below w.heap.size w w') : JobAt w' g p j := by
  obtain ⟨h0, h1, h2, h3, B, m, c, h4, h5⟩ := h
  exact ⟨(hb.cell (p := ⟨g, p, none⟩) hg).trans h0, (hb.cell (p := ⟨g, p + 1, none⟩) hg).trans h1, (hb.cell (p := ⟨g, p + 2, none⟩) hg).trans h2, (hb.cell (p := ⟨g, p + 3, none⟩) hg).trans h3, B, m, c, (hb.cell (p := ⟨g, p + 4, none⟩) hg).trans h4, h5.later hb⟩
theorem JobsH.later {w w' : World} {A : Option Addr} {n : Nat} {l : List Jb} (h : JobsH w A n l) (hb : Below w.heap.size w w') : JobsH w' A n l :=
  ⟨h.1, fun hn => by
    obtain ⟨g, e, hg, hc⟩ := h.2 hn
    exact ⟨g, e, Nat.lt_of_lt_of_le hg hb.size, fun k j hk => (hc k j hk).later hg hb⟩⟩
theorem JobsH.at_ {w : World} {A : Option Addr} {n k : Nat} {l : List Jb} (h : JobsH w A n l) (hk : k < n) : ∃ g j, A = some ⟨g, 0, none⟩ ∧ g < w.heap.size ∧ l[k]? = some j ∧ JobAt w g (k * 5) j := by
  obtain ⟨g, e, hg, hc⟩ := h.2 (by omega)
  have hl : k < l.length := by have := h.1; omega
  exact ⟨g, l[k], e, hg, List.getElem?_eq_getElem hl, hc k _ (List.getElem?_eq_getElem hl)⟩

theorem riseB_step {lim last x : Int} {l : List Int} {k : Nat} (hx : l[k]? = some x) : riseB lim last (l.drop k) = (decide (last < x) && (decide (x < lim) && riseB lim x (l.drop (k + 1)))) := by
  rw [drop_step hx]
  rfl
theorem riseB_short {k : Nat} {l : List Int} (h : riseB k (-1) l = true) : l.length ≤ k :=
  short_of_nodup k l (riseB_nodup h) fun i hi => by have := riseB_lt h i hi; omega
set_option maxHeartbeats 1000000 in
theorem rising_yes (A : Option Addr) (n c : Nat) (lim : Int) (l : List Int) (w : World) (rA : RowH w A n l) (hr : riseB lim (-1) l = true) (hn : n ≤ 1000) :
    Calls Try.prog 78 #[.slice A n c, .int .i64 lim] w fun e w' => e = .returned (.bool true) ∧ w = w' := by
  have HR := Lib.hid hr
  clear hr
  go_enter Try.func78, Try.ntmps78
  go_wp2_with fail
  go_loopw [5, 10] (fun t i wr => ∃ (k : Nat) (last : Int), k ≤ n ∧ i = .int .i64 k ∧ t = .int .i64 last ∧ Hid (riseB lim last (l.drop k) = true) ∧ w = wr) (fun _ i _ => n - (intOf i).toNat)
  case atStart => exact ⟨0, -1, Nat.zero_le _, rfl, rfl, HR, rfl⟩
  case round =>
    obtain ⟨k, last, hk, rfl, rfl, hL, rfl⟩ := hrel
    by_cases hlt : k < n
    · have hbt : decide ((k : Int) < (n : Int)) = true := by simp; omega
      have hbt2 : (k : Int) < (n : Int) := by omega
      obtain ⟨g, rfl, hg, hc⟩ := rA.at_ hlt
      have hl := getD_get (o := l) (k := k) (by rw [rA.1]; exact hlt)
      generalize l.getD k 0 = x at *
      have h2 := hL.out
      rw [riseB_step hl] at h2
      simp only [Bool.and_eq_true, decide_eq_true_eq] at h2
      obtain ⟨x1, x2, x3⟩ := h2
      have X3 := Lib.hid x3
      have d1 : decide (x ≤ last) = false := by simp; omega
      have d2 : ¬ x ≤ last := by omega
      have d3 : decide (x ≥ lim) = false := by simp; omega
      have d4 : ¬ lim ≤ x := by omega
      clear hl x3 hL
      go_wp2_with fail
      go_roundw
      case rel => exact ⟨k + 1, x, by omega, by go_num, rfl, X3, trivial⟩
      case measure => simp [intOf]; omega
    · obtain rfl : k = n := by omega
      have hbt : decide ((k : Int) < (k : Int)) = false := by simp
      go_wp2_with fail
      go_ret
      exact ⟨rfl, rfl⟩

theorem allB_step {l : List Jb} {j : Jb} {k : Nat} (hj : l[k]? = some j) (h : allB 0 l = true) : jobB k j = true := by
  have := allB_at h k j hj
  rwa [Nat.zero_add] at this
set_option maxHeartbeats 2000000 in
theorem Check_yes (A : Option Addr) (n c : Nat) (l : List Jb) (w : World) (rA : JobsH w A n l) (hv : validB l = true) :
    Calls Try.prog 50 #[.slice A n c] w fun e w' => e = .returned (.int .i64 0) ∧ Below w.heap.size w w' := by
  unfold validB at hv
  simp only [Bool.and_eq_true, decide_eq_true_eq] at hv
  obtain ⟨hl, hv⟩ := hv
  have HV := Lib.hid hv
  have hn : n ≤ 64 := by rw [← rA.1]; exact hl
  have d0 : decide ((n : Int) ≤ 64) = true := by simp; omega
  have d1 : (n : Int) ≤ 64 := by omega
  clear hv hl
  go_enter Try.func50, Try.ntmps50
  go_wp2_with fail
  go_loopw [3, 11] (fun t i wr => ∃ (k : Nat), k ≤ n ∧ i = .int .i64 k ∧ t = .bool true ∧ Below w.heap.size w wr) (fun _ i _ => n - (intOf i).toNat)
  case atStart => exact ⟨0, Nat.zero_le _, rfl, rfl, Below.refl _ _⟩
  case round =>
    obtain ⟨k, hk, rfl, rfl, hb⟩ := hrel
    by_cases hlt : k < n
    · have hbt : decide ((k : Int) < (n : Int)) = true := by simp; omega
      have hbt2 : (k : Int) < (n : Int) := by omega
      obtain ⟨g, j, rfl, hg, hj, h0, h1, h2, h3, B, m, c', h4, h5⟩ := (rA.later hb).at_ hlt
      have hJ := allB_step hj HV.out
      unfold jobB at hJ
      simp only [Bool.and_eq_true, decide_eq_true_eq] at hJ
      obtain ⟨⟨j1, j2, j3, j4, j5, j6, j7, j8⟩, hr⟩ := hJ
      have hb1 := hb.alloc hb.size (.cells #[.int .i64 j.work, .int .i64 j.rel, .int .i64 j.due, .int .i64 j.wt, .slice B m c'] 43)
      have M := Lib.hid (rising_yes B m c' k j.after (wr.alloc (.cells #[.int .i64 j.work, .int .i64 j.rel, .int .i64 j.due, .int .i64 j.wt, .slice B m c'] 43)) (h5.later ((Below.refl _ _).alloc (Nat.le_refl _) _)) hr (by have := riseB_short hr; have := h5.1; omega))
      clear h5 hj hr
      go_wp2_with fail
      refine M.out.mono ?_
      rintro e w2 ⟨rfl, rfl⟩
      go_wp2_with fail
      go_roundw
      case rel => exact ⟨k + 1, by omega, by go_num, rfl, hb1⟩
      case measure => simp [intOf]; omega
    · obtain rfl : k = n := by omega
      have hbt : decide ((k : Int) < (k : Int)) = false := by simp
      go_wp2_with fail
      go_ret
      exact ⟨rfl, hb⟩
end Go.Proofs.Ytnfcigbiebbjdaa
