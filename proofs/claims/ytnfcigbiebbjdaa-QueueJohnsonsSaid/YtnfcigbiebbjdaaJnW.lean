/-
  The walk of the law on Johnson's order and on the length of any order.
  No conditions.
-/
import Derived.Test.YtnfcigbiebbjdaaRJohn
namespace Go.Proofs.Ytnfcigbiebbjdaa
open Go.RowKit

theorem leOf_anti2 {cf : Int → Int → Int} (x y : Int) (h1 : leOf cf x y) (h2 : leOf cf y x) : x = y := by
  have a := h1.2.resolve_left h2.1
  have b := h2.2.resolve_left h1.1
  omega
theorem eqb_self2 (x : Int) : (x == x) = true := by simp
theorem neb_self2 (x : Int) : (x != x) = false := by simp

set_option maxRecDepth 100000 in
set_option maxHeartbeats 8000000 in
theorem walkJn (A B C : Option Addr) (n c m d p e : Nat) (x y z : List Int) (w : World) (rA : RowI w A n x) (hA : n ≤ c) (nA : A = none → c = 0) (rB : RowI w B m y) (hB : m ≤ d) (nB : B = none → d = 0) (rC : RowI w C p z) (hC : p ≤ e) (nC : C = none → e = 0) :
    Calls Try.prog 11 #[.slice A n c, .slice B m d, .slice C p e] w fun e w' => e = .returned (.bool true) ∧ Below w.heap.size w w' := by
  have C1 := Lib.hid (cut_any A n c 66 x w rA hA nA (by omega))
  have C2 := Lib.hid (fun w1 h1 => cut_any B m d 66 y w1 (rB.later (w' := w1) h1) hB nB (by omega))
  have C3 := Lib.hid (fun w1 h1 => cut_any C p e 66 z w1 (rC.later (w' := w1) h1) hC nC (by omega))
  have l1 : (x.take 66).length ≤ 66 := by rw [List.length_take]; omega
  have l2 : (y.take 66).length ≤ 66 := by rw [List.length_take]; omega
  have l3 : (z.take 66).length ≤ 66 := by rw [List.length_take]; omega
  generalize x.take 66 = f at *
  generalize y.take 66 = s at *
  generalize z.take 66 = o at *
  clear rA rB rC
  obtain ⟨N, hN⟩ : ∃ N, N = f.length := ⟨_, rfl⟩
  obtain ⟨M, hM⟩ : ∃ M, M = s.length := ⟨_, rfl⟩
  obtain ⟨Q, hQ⟩ : ∃ Q, Q = o.length := ⟨_, rfl⟩
  have HNl := Lib.hid hN
  have HMl := Lib.hid hM
  have HQl := Lib.hid hQ
  rw [← hN] at l1
  rw [← hM] at l2
  rw [← hQ] at l3
  clear hN hM hQ
  go_enter Try.func11, Try.ntmps11
  go_wp2_with fail
  refine C1.out.mono ?_
  rintro e1 w1 ⟨v1, rfl, hown1, hb1⟩
  rw [← HNl.out] at hown1
  have D2 := Lib.hid (C2.out w1 hb1)
  obtain ⟨A1, c1, rfl⟩ := own_slice hown1
  have hf1 := own_rowH hown1
  clear C1 hown1 C2
  go_wp2_with fail
  refine D2.out.mono ?_
  rintro e2 w2 ⟨v2, rfl, hown2, hb2⟩
  rw [← HMl.out] at hown2
  have hw2 := hb1.trans (hb2.mono hb1.size)
  have D3 := Lib.hid (C3.out w2 hw2)
  obtain ⟨A2, c2, rfl⟩ := own_slice hown2
  have hs2 := own_rowH hown2
  have hf2 := hf1.later hb2
  clear D2 hown2 hf1 hb1 hb2 C3
  go_wp2_with fail
  refine D3.out.mono ?_
  rintro e3 w3 ⟨v3, rfl, hown3, hb3⟩
  rw [← HQl.out] at hown3
  obtain ⟨A3, c3, rfl⟩ := own_slice hown3
  have ho3 := own_rowH hown3
  have hf3 := hf2.later hb3
  have hs3 := hs2.later hb3
  have hw3 := hw2.trans (hb3.mono hw2.size)
  clear D3 hown3 hf2 hs2 hw2 hb3
  by_cases hT : TimesP f s
  case neg =>
    have HT := Lib.hid hT
    have J1 := Lib.hid (Johnson_no A1 A2 N M c1 c2 f s w3 hf3 hs3 (by omega) (by omega) hT)
    clear hT
    go_wp2_with fail
    refine J1.out.mono ?_
    rintro e4 w4 ⟨rfl, hb4⟩
    have hf4 := hf3.later hb4
    have hs4 := hs3.later hb4
    have ho4 := ho3.later hb4
    have hw4 := hw3.trans (hb4.mono hw3.size)
    have L1 := Lib.hid (qLength_any A1 A2 A3 N M Q c1 c2 c3 f s o w4 hf4 hs4 ho4 (by omega) (by omega) (by omega))
    clear J1 hf3 hs3 ho3 hw3 hb4
    go_wp2_with fail
    refine L1.out.mono ?_
    rintro e5 w5 ⟨a, r, rfl, hcs, hb5⟩
    have hcs2 : a = 0 ∧ r = 1 := by
      rcases hcs with ⟨_, h⟩ | ⟨h, _⟩ | ⟨h, _⟩
      · exact h
      · exact absurd h HT.out
      · exact absurd h HT.out
    obtain ⟨rfl, rfl⟩ := hcs2
    have hf5 := hf4.later hb5
    have hs5 := hs4.later hb5
    have hw5 := hw4.trans (hb5.mono hw4.size)
    have T1 := Lib.hid (Times_any A1 A2 N M c1 c2 f s w5 hf5 hs5 (by omega) (by omega))
    clear L1 hcs hf4 hs4 ho4 hw4 hb5
    go_wp2_with fail
    refine T1.out.mono ?_
    rintro e6 w6 ⟨b, rfl, hbt, hb6⟩
    obtain rfl : b = false := by
      cases b with
      | false => rfl
      | true => exact absurd (hbt.1 rfl) HT.out
    have hw6 := hw5.trans (hb6.mono hw5.size)
    clear T1 hbt hf5 hs5 hw5 hb6
    go_wp2_with fail
    refine (lives_any _).mono ?_
    rintro e7 w7 ⟨rfl, hb7⟩
    have hfin := hw6.trans (hb7.mono hw6.size)
    go_wp2_with fail
    go_ret
    exact ⟨rfl, hfin⟩
  case pos =>
    have HT := Lib.hid hT
    have hMN : M = N := by rw [HNl.out, HMl.out]; exact hT.1.symm
    subst hMN
    have h64 : M ≤ 64 := by rw [HNl.out]; exact hT.2.1
    have sf := hT.2.2.1.small
    have ss := hT.2.2.2.small
    have HSf := Lib.hid sf
    have HSs := Lib.hid ss
    have J1 := Lib.hid (Johnson_yes A1 A2 M c1 c2 f s w3 hf3 hs3 sf ss h64)
    clear hT sf ss
    go_wp2_with fail
    refine J1.out.mono ?_
    rintro e4 w4 ⟨R, o1, rfl, hP, hS, hR, hb4⟩
    have HP := Lib.hid hP
    have HS := Lib.hid hS
    obtain ⟨n1, hn1⟩ : ∃ n1, n1 = lenF f s 0 0 o1 := ⟨_, rfl⟩
    rw [← hn1]
    have HN1 := Lib.hid hn1
    have hf4 := hf3.later hb4
    have hs4 := hs3.later hb4
    have ho4 := ho3.later hb4
    have hw4 := hw3.trans (hb4.mono hw3.size)
    have L1 := Lib.hid (qLength_any A1 A2 A3 M M Q c1 c2 c3 f s o w4 hf4 hs4 ho4 (by omega) (by omega) (by omega))
    clear J1 hP hS hn1 hf3 hs3 ho3 hw3 hb4
    go_wp2_with fail
    refine L1.out.mono ?_
    rintro e5 w5 ⟨a, r, rfl, hcs, hb5⟩
    have HCs : Hid (¬ isOrd M o ∧ a = 0 ∧ r = 2 ∨ isOrd M o ∧ a = lenF f s 0 0 o ∧ r = 0) := by
      rcases hcs with ⟨h, _⟩ | ⟨_, h⟩ | ⟨_, h⟩
      · exact absurd HT.out h
      · exact .inl h
      · exact .inr h
    have hf5 := hf4.later hb5
    have hs5 := hs4.later hb5
    have ho5 := ho4.later hb5
    have hR5 := hR.later hb5
    have hw5 := hw4.trans (hb5.mono hw4.size)
    have T1 := Lib.hid (Times_any A1 A2 M M c1 c2 f s w5 hf5 hs5 (by omega) (by omega))
    clear L1 hcs hf4 hs4 ho4 hR hw4 hb5
    go_wp2_with fail
    refine T1.out.mono ?_
    rintro e6 w6 ⟨b, rfl, hbt, hb6⟩
    obtain rfl : b = true := hbt.2 HT.out
    have hf6 := hf5.later hb6
    have hs6 := hs5.later hb6
    have ho6 := ho5.later hb6
    have hR6 := hR5.later hb6
    have hw6 := hw5.trans (hb6.mono hw5.size)
    have Q1 := Lib.hid (rJohnson_yes A1 A2 M c1 c2 f s w6 hf6 hs6 h64)
    clear T1 hbt hf5 hs5 ho5 hR5 hw5 hb6
    go_wp2_with fail
    refine Q1.out.mono ?_
    rintro e7 w7 ⟨v, o2, rfl, hP2, hS2, hown7, hb7⟩
    obtain rfl : o1 = o2 := sorted_uniq leOf_anti2 (HP.out.trans hP2.symm) HS.out hS2
    obtain ⟨A7, c7, rfl⟩ := own_slice hown7
    have hq7 := own_rowH hown7
    have hf7 := hf6.later hb7
    have hs7 := hs6.later hb7
    have ho7 := ho6.later hb7
    have hR7 := hR6.later hb7
    have hw7 := hw6.trans (hb7.mono hw6.size)
    have S1 := Lib.hid (same_true (some ⟨R, 0, none⟩) A7 M M c7 o1 w7 hR7 hq7 (by omega))
    clear Q1 hP2 hS2 hown7 hf6 hs6 ho6 hR6 hw6 hb7
    go_wp2_with fail
    refine S1.out.mono ?_
    rintro e8 w8 ⟨rfl, hb8⟩
    have hf8 := hf7.later hb8
    have hs8 := hs7.later hb8
    have ho8 := ho7.later hb8
    have hq8 := hq7.later hb8
    have hw8 := hw7.trans (hb8.mono hw7.size)
    have R1 := Lib.hid (rLength_any A1 A2 A7 M c1 c2 M c7 f s o1 w8 hf8 hs8 hq8 HSf.out HSs.out (fun q hq => mem_nums.1 (HP.out.mem_iff.1 hq)) (by omega))
    rw [← HN1.out] at R1
    have t1 := neb_self2 n1
    clear S1 hf7 hs7 ho7 hR7 hq7 hw7 hb8
    go_wp2_with fail
    refine R1.out.mono ?_
    rintro e9 w' ⟨rfl, rfl⟩
    go_wp2_with fail
    refine (lives_any _).mono ?_
    rintro e10 w10 ⟨rfl, hb10⟩
    have hf10 := hf8.later hb10
    have hs10 := hs8.later hb10
    have ho10 := ho8.later hb10
    have hw10 := hw8.trans (hb10.mono hw8.size)
    have O1 := Lib.hid (Order_any A3 Q c3 M o w10 ho10 (by omega) (by omega))
    clear R1 hf8 hs8 ho8 hq8 hw8 hb10
    go_wp2_with fail
    refine O1.out.mono ?_
    rintro e11 w11 ⟨b, rfl, hbt, hb11⟩
    have HB := Lib.hid hbt
    have hf11 := hf10.later hb11
    have hs11 := hs10.later hb11
    have ho11 := ho10.later hb11
    have hw11 := hw10.trans (hb11.mono hw10.size)
    clear O1 hbt hf10 hs10 ho10 hw10 hb11
    cases b with
    | false =>
      have HF : ¬ isOrd M o := fun h => by have := HB.out.2 h; cases this
      have hcs2 : a = 0 ∧ r = 2 := by
        rcases HCs.out with ⟨_, h⟩ | ⟨h, _⟩
        · exact h
        · exact absurd h HF
      obtain ⟨rfl, rfl⟩ := hcs2
      clear HF HCs HB
      go_wp2_with fail
      go_ret
      exact ⟨rfl, hw11⟩
    | true =>
      have HO : isOrd M o := HB.out.1 rfl
      have hcs2 : a = lenF f s 0 0 o ∧ r = 0 := by
        rcases HCs.out with ⟨h, _⟩ | ⟨_, h⟩
        · exact absurd HO h
        · exact h
      obtain ⟨ha, rfl⟩ := hcs2
      have L2 := Lib.hid (rLength_any A1 A2 A3 M c1 c2 Q c3 f s o w11 hf11 hs11 ho11 HSf.out HSs.out HO.2.2 (by omega))
      rw [← ha] at L2
      have t2 := eqb_self2 a
      clear HO HCs HB ha
      go_wp2_with fail
      refine L2.out.mono ?_
      rintro e12 w' ⟨rfl, rfl⟩
      go_wp2_with fail
      go_ret
      exact ⟨rfl, hw11⟩
end Go.Proofs.Ytnfcigbiebbjdaa
