/-
  The seat's texts Sort1 Sort2 Sort3 Sort4 Sort5 Sort6 Sort7 Sort8 App in one: the contracts of the functions that the law reaches, and the plain laws that they rest on.
  Conditions: as each theorem states them.
-/
import Derived.Test.YtpklcjbdmikbdaaGreatProg
import Derived.Test.YtpklcjbdmikbdaaGreatGK
import Derived.Test.YtpklcjbdmikbdaaGreatGP
import Derived.BigRegion
import Derived.WalkKit
import Derived.Shelf.Abstract
import Derived.Deep.AppendLies
import Derived.Deep.AppendSrc
import Derived.Deep.Upon
namespace Go.Proofs.YtpklcjbdmikbdaaGreat
open Go.RowKit

/-- What is asked of a comparison: g is its function, cb what it has captured, R the row's block, D which numbers it is asked about. -/
structure Cmp (g : Nat) (cb : Array Value) (cf : Int → Int → Int) (w0 : World) (R : Nat) (D : Int → Prop) : Prop where
  enters : ∀ args w, (callFunc g args).run Tryz.prog w = .ok (.enter g args) w
  tells : ∀ W, w0.grownBy W (some R) → ∀ x y, D x → D y → Calls Tryz.prog g (#[.int .i64 x, .int .i64 y] ++ cb) W fun e w' => e = .returned (.int .i64 (cf x y)) ∧ Below W.heap.size W w'
/-- Earlier and later: the comparison agrees with the order. -/
def Agrees (cf : Int → Int → Int) (le : Int → Int → Prop) (x y : Int) : Prop := cf y x < 0 ↔ ¬ le x y

theorem ins_perm {S C1 X Y : List Int} {k : Nat} {x : Int} (hx : S[k]? = some x) (hP : C1.Perm (S.take k)) (hC : C1 = X ++ Y) : (X ++ x :: Y).Perm (S.take (k + 1)) := by
  rw [List.take_add_one, hx]
  subst hC
  show (X ++ x :: Y).Perm (S.take k ++ [x])
  exact (List.perm_middle.trans (List.Perm.cons x hP)).trans (List.perm_append_comm (l₁ := [x]))
theorem ins_agree {cf : Int → Int → Int} {le : Int → Int → Prop} {S C1 : List Int} {k : Nat} {x s : Int} (hA : S.Pairwise (Agrees cf le)) (hx : S[k]? = some x) (hP : C1.Perm (S.take k)) (hs : s ∈ C1) : Agrees cf le s x := by
  have h1 := hP.mem_iff.1 hs
  have hk := (List.getElem?_eq_some_iff.1 hx).1
  have e : S = S.take k ++ S.drop k := (List.take_append_drop k S).symm
  rw [e] at hA
  refine (List.pairwise_append.1 hA).2.2 s h1 x ?_
  rw [List.drop_eq_getElem_cons hk, (List.getElem?_eq_some_iff.1 hx).2]
  simp

theorem two_at (P X Z : List Int) (s x : Int) : (P ++ ((X ++ [s]) ++ x :: Z))[P.length + X.length]? = some s ∧ (P ++ ((X ++ [s]) ++ x :: Z))[P.length + X.length + 1]? = some x := by
  have e : P ++ ((X ++ [s]) ++ x :: Z) = (P ++ X) ++ s :: x :: Z := by simp
  rw [e, ← List.length_append]
  exact ⟨at_mid _ _ _, at_mid1 _ _ _ _⟩
theorem two_swap (P X Z : List Int) (s x : Int) : ((P ++ ((X ++ [s]) ++ x :: Z)).set (P.length + X.length + 1) s).set (P.length + X.length) x = P ++ (X ++ x :: s :: Z) := by
  have e : P ++ ((X ++ [s]) ++ x :: Z) = (P ++ X) ++ s :: x :: Z := by simp
  rw [e, ← List.length_append, List.set_comm _ _ (by omega), swap_next]
  simp

set_option maxHeartbeats 2000000 in
theorem insert_any {g : Nat} {cb : Array Value} {cf : Int → Int → Int} {w0 : World} {R : Nat} {D : Int → Prop} (C : Cmp g cb cf w0 R D) {le : Int → Int → Prop} (T : TotLe le)
    (pre S post : List Int) (cap : Nat) (w : World) (hD : ∀ x ∈ S, D x) (hA : S.Pairwise (Agrees cf le)) (hB : RowB w R (pre ++ (S ++ post))) (hw : w0.grownBy w (some R))
    (hl : (pre ++ (S ++ post)).length ≤ 1000) :
    Calls Tryz.prog 99 #[.slice (some ⟨R, 0, none⟩) (pre ++ (S ++ post)).length cap, .int .i64 pre.length, .int .i64 (pre.length + S.length : Nat), .func (.func g) #[] cb] w fun e w' =>
      e = .returned (.tuple #[]) ∧ ∃ S', S'.Perm S ∧ S'.Pairwise le ∧ RowB w' R (pre ++ (S' ++ post)) ∧ w0.grownBy w' (some R) := by
  have eg := C.enters
  have HC := Lib.hid C
  have HT := Lib.hid T
  have HA := Lib.hid hA
  have HD := Lib.hid hD
  clear C T hA hD
  simp only [List.length_append] at hl
  obtain ⟨N, hN⟩ : ∃ N, N = (pre ++ (S ++ post)).length := ⟨_, rfl⟩
  have hN' := hN
  simp only [List.length_append] at hN'
  rw [← hN]
  have HN := Lib.hid hN'
  clear hN hN'
  go_enter Tryz.func99, Tryz.ntmps99
  go_wp2_with fail
  go_loopw [8] (fun i wr => ∃ (k : Nat) (C1 : List Int), i = .int .i64 (pre.length + k : Nat) ∧ 1 ≤ k ∧ (k ≤ S.length ∨ S.length = 0) ∧ Hid (C1.Perm (S.take k)) ∧ Hid (C1.Pairwise le) ∧ RowB wr R (pre ++ (C1 ++ (S.drop k ++ post))) ∧ w0.grownBy wr (some R)) (fun i _ => pre.length + S.length - (intOf i).toNat)
  case atStart =>
    cases S with
    | nil => exact ⟨1, [], by go_num, Nat.le_refl _, .inr rfl, List.Perm.refl _, List.Pairwise.nil, by simpa using hB, hw⟩
    | cons s S => exact ⟨1, [s], by go_num, Nat.le_refl _, .inl (by simp), List.Perm.refl _, by simp [Lib.hid], by simpa using hB, hw⟩
  case round =>
    clear hB hw
    obtain ⟨k, C1, rfl, hk1, hkS, hP, hS, hBr, hwr⟩ := hrel
    by_cases hlt : k < S.length
    · obtain ⟨x, hx⟩ : ∃ x, S[k]? = some x := ⟨_, List.getElem?_eq_getElem hlt⟩
      have hdrop : S.drop k = x :: S.drop (k + 1) := by
        rw [List.drop_eq_getElem_cons hlt, (List.getElem?_eq_some_iff.1 hx).2]
      have hlen : C1.length = k := by rw [hP.out.length_eq, List.length_take]; omega
      rw [hdrop] at hBr
      have HX := Lib.hid hx
      clear hx hdrop
      obtain ⟨q, hq⟩ : ∃ q, q = pre.length + k := ⟨_, rfl⟩
      obtain ⟨z, hz⟩ : ∃ z, z = pre.length + S.length := ⟨_, rfl⟩
      have hb1 : decide ((q : Int) < (z : Int)) = true := by simp; omega
      rw [← hq, ← hz]
      go_wp2_with fail
      go_loopw [9] (fun j wr => ∃ (X Y : List Int), j = .int .i64 (pre.length + X.length : Nat) ∧ Hid (C1 = X ++ Y) ∧ Hid (∀ s ∈ Y, le x s) ∧ RowB wr R (pre ++ (X ++ x :: (Y ++ (S.drop (k + 1) ++ post)))) ∧ w0.grownBy wr (some R)) (fun j _ => (intOf j).toNat)
      case atStart => exact ⟨C1, [], by rw [hlen, hq], by show _ = _; simp, by simp [Lib.hid], by simpa using hBr, hwr⟩
      case round =>
        obtain ⟨X, Y, rfl, hC, hY, hBj, hwj⟩ := hrel
        rcases List.eq_nil_or_concat X with rfl | ⟨X0, s, rfl⟩
        · have hb2 : decide ((pre.length : Int) > (pre.length : Int)) = false := by simp
          have hb3 : decide ((pre.length : Int) < (pre.length : Int)) = false := by simp
          simp only [List.length_nil, Nat.add_zero]
          have hx := later_cell (w := wr)
          go_wp2_with fail
          refine wp_region_later (by kernel_rfl) (by kernel_rfl) ?_
          repeat (go_big_quiet_step (fail))
          refine wpQuiet_nil ?_
          rintro w2 ⟨⟨_, hb2⟩, rfl⟩
          have hBj2 := hBj.later hb2
          go_wp2_with fail
          go_roundw
          case rel =>
            refine ⟨k + 1, x :: Y, by go_num, by omega, by omega, ins_perm HX.out hP.out hC.out, ?_, by simpa using hBj2, only_trans_below hwj hb2⟩
            have h0 := hS.out
            rw [hC.out] at h0
            exact ins_sorted (S1 := []) h0 hY.out (by simp)
          case measure => simp [intOf]; omega
        · rw [List.concat_eq_append] at *
          obtain ⟨p, hp⟩ : ∃ p, p = pre.length + X0.length := ⟨_, rfl⟩
          have cs : wr.cell? ⟨R, p, none⟩ = some (.int .i64 s) := hBj.at_ (by rw [hp]; exact (two_at _ _ _ _ _).1)
          have cx : wr.cell? ⟨R, p + 1, none⟩ = some (.int .i64 x) := hBj.at_ (by rw [hp]; exact (two_at _ _ _ _ _).2)
          have hpl : p + 1 < N := by
            have h1 := hC.out
            have h2 := congrArg List.length h1
            simp at h2
            have := HN.out
            omega
          have lR := hBj.lt
          have hs : s ∈ C1 := by rw [hC.out]; simp
          have hsD : D s := HD.out s (by have := hP.out.mem_iff.1 hs; exact List.mem_of_mem_take this)
          have hxD : D x := HD.out x (List.mem_of_getElem? HX.out)
          have hag := Lib.hid (ins_agree HA.out HX.out hP.out hs)
          have M : Hid (∀ y : Later wr, Hid (Calls Tryz.prog g (#[.int .i64 x, .int .i64 s] ++ cb) y.val fun e w' => e = .returned (.int .i64 (cf x s)) ∧ ∃ z : Later wr, w' = z.val)) := fun y => later_call (HC.out.tells y.val (only_trans_below hwj y.property) x s hxD hsD)
          clear hs hsD hxD
          have hNb : N ≤ 1000 := by have := HN.out; omega
          have jz : (p : Int) + 1 < (N : Int) := by omega
          have jz1 : (p : Int) < (N : Int) := by omega
          have hwp : IntKind.i64.wrap (p : Int) = (p : Int) := by rw [IntKind.wrap_i64]; omega
          have p0 : (0 : Int) ≤ (p : Int) + 1 := by omega
          have e0 : ((p : Int) + 1).toNat = p + 1 := by omega
          have hb4 : decide ((p : Int) + 1 > (pre.length : Int)) = true := by simp; omega
          have hb5 : (pre.length : Int) < (p : Int) + 1 := by omega
          have hb7 : (pre.length : Int) ≤ (p : Int) := by omega
          have hb8 : pre.length ≤ p := by omega
          have hx := later_cell (w := wr)
          have ep : ((pre.length + (X0 ++ [s]).length : Nat) : Int) = (p : Int) + 1 := by rw [hp]; simp; omega
          rw [ep]
          have hqb : q ≤ 1000 := by omega
          have hlv' : ¬ cf x s < 0 → le s x := fun h => by
            by_cases h1 : le s x
            · exact h1
            · exact absurd (hag.out.2 h1) h
          have HLV := Lib.hid hlv'
          clear hlv'
          have HPp := Lib.hid hp
          have HQ := Lib.hid hq
          have HZ := Lib.hid hz
          clear hp hq hz ep
          by_cases hlv : cf x s < 0
          · have hb6 : decide (cf x s < 0) = true := by simpa using hlv
            go_wp2_with fail
            refine wp_region_later (by kernel_rfl) (by kernel_rfl) ?_
            repeat (go_big_quiet_step ((first | (go_at_fn g; exact (M.out _).out))))
            refine wpQuiet_nil ?_
            rintro w2 ⟨⟨_, hb2⟩, rfl⟩
            have hBj2 := hBj.later hb2
            have hwj2 := only_trans_below hwj hb2
            have cs2 : w2.cell? ⟨R, p, none⟩ = some (.int .i64 s) := hBj2.at_ (by rw [HPp.out]; exact (two_at _ _ _ _ _).1)
            have cx2 : w2.cell? ⟨R, p + 1, none⟩ = some (.int .i64 x) := hBj2.at_ (by rw [HPp.out]; exact (two_at _ _ _ _ _).2)
            have fs2 : w2.frozen? ⟨R, p, none⟩ = false := hBj2.frozen _
            have fx2 : w2.frozen? ⟨R, p + 1, none⟩ = false := hBj2.frozen _
            clear hx cs cx M
            obtain ⟨p1, hp1⟩ : ∃ p1, p1 = p + 1 := ⟨_, rfl⟩
            rw [← hp1] at cx2 fx2 e0
            have HP1 := Lib.hid hp1
            clear hp1
            go_wp2_with fail
            go_big_region
            all_goals go_wp2_with fail
            go_roundw
            case rel =>
              refine ⟨X0, s :: Y, ?_, ?_, ?_, ?_, ?_⟩
              · rw [HPp.out]
              · show _ = _
                rw [hC.out]; simp
              · have h1 : ¬ le s x := hag.out.1 hlv
                have h2 : le x s := (HT.out.total x s).resolve_right h1
                exact fun y hy => by
                  rcases List.mem_cons.1 hy with rfl | hy
                  · exact h2
                  · exact hY.out y hy
              · have h1 := (hBj2.set_ p1 s).set_ p x
                rw [HP1.out, HPp.out, two_swap] at h1
                rw [HP1.out, HPp.out]
                exact h1
              · exact only_setCell (only_setCell (only_drew hwj2) (.inl rfl) _) (.inl rfl) _
            case measure => simp [intOf]
          · have hb6 : decide (cf x s < 0) = false := by simpa using hlv
            go_wp2_with fail
            refine wp_region_later (by kernel_rfl) (by kernel_rfl) ?_
            repeat (go_big_quiet_step ((first | (go_at_fn g; exact (M.out _).out))))
            refine wpQuiet_nil ?_
            rintro w2 ⟨⟨_, hb2⟩, rfl⟩
            have hBj2 := hBj.later hb2
            go_wp2_with fail
            go_roundw
            case rel =>
              refine ⟨k + 1, (X0 ++ [s]) ++ x :: Y, by rw [HQ.out]; go_num, by omega, by omega, ins_perm HX.out hP.out hC.out, ?_, by simpa using hBj2, only_trans_below hwj hb2⟩
              have h0 := hS.out
              rw [hC.out] at h0
              have hle : le s x := HLV.out (by omega)
              exact ins_sorted h0 hY.out (all_before HT.out (List.pairwise_append.1 h0).1 hle)
            case measure => simp [intOf]; have := HQ.out; have := HZ.out; omega
    · have hbf : decide (((pre.length + k : Nat) : Int) < ((pre.length + S.length : Nat) : Int)) = false := by simp; omega
      have e1 : S.take k = S := List.take_of_length_le (by omega)
      have e2 : S.drop k = [] := List.drop_of_length_le (by omega)
      have E1 := Lib.hid e1
      rw [e2] at hBr
      clear e1 e2
      obtain ⟨q, hq⟩ : ∃ q, q = pre.length + k := ⟨_, rfl⟩
      obtain ⟨z, hz⟩ : ∃ z, z = pre.length + S.length := ⟨_, rfl⟩
      rw [← hq, ← hz] at hbf ⊢
      go_wp2_with fail
      go_end0
      exact ⟨rfl, C1, by rw [← E1.out]; exact hP.out, hS.out, by simpa using hBr, hwr⟩
end Go.Proofs.YtpklcjbdmikbdaaGreat
namespace Go.Proofs.YtpklcjbdmikbdaaGreat
open Go.RowKit

theorem two_at' (A B C : List Int) (x y : Int) : (A ++ (x :: (B ++ y :: C)))[A.length]? = some x ∧ (A ++ (x :: (B ++ y :: C)))[A.length + 1 + B.length]? = some y := by
  constructor
  · simp
  · rw [List.getElem?_append_right (by omega), show A.length + 1 + B.length - A.length = B.length + 1 by omega, List.getElem?_cons_succ, List.getElem?_append_right (Nat.le_refl _), Nat.sub_self]
    rfl
theorem two_swap' (A B C : List Int) (x y : Int) : ((A ++ (x :: (B ++ y :: C))).set A.length y).set (A.length + 1 + B.length) x = A ++ (y :: (B ++ x :: C)) := by
  rw [List.set_append_right _ _ (Nat.le_refl _), Nat.sub_self, List.set_cons_zero, List.set_append_right _ _ (by omega), show A.length + 1 + B.length - A.length = B.length + 1 by omega, List.set_cons_succ,
    List.set_append_right _ _ (Nat.le_refl _), Nat.sub_self, List.set_cons_zero]
/-- The row in the middle of an exchange. -/
def exch (P X M Y Q : List Int) (i : Nat) : List Int := P ++ (Y.take i ++ X.drop i) ++ M ++ (X.take i ++ Y.drop i) ++ Q
theorem exch_split {P X M Y Q : List Int} {i : Nat} {x y : Int} (hx : X[i]? = some x) (hy : Y[i]? = some y) :
    exch P X M Y Q i = (P ++ Y.take i) ++ (x :: ((X.drop (i + 1) ++ M ++ X.take i) ++ y :: (Y.drop (i + 1) ++ Q))) ∧
    exch P X M Y Q (i + 1) = (P ++ Y.take i) ++ (y :: ((X.drop (i + 1) ++ M ++ X.take i) ++ x :: (Y.drop (i + 1) ++ Q))) := by
  have h1 := (List.getElem?_eq_some_iff.1 hx)
  have h2 := (List.getElem?_eq_some_iff.1 hy)
  obtain ⟨l1, e1⟩ := h1
  obtain ⟨l2, e2⟩ := h2
  unfold exch
  constructor
  · rw [List.drop_eq_getElem_cons l1, List.drop_eq_getElem_cons l2, e1, e2]
    simp
  · rw [List.take_add_one, List.take_add_one, hx, hy]
    simp

set_option maxHeartbeats 2000000 in
theorem swapRange_any {w0 : World} {R : Nat} (P X M Y Q : List Int) (cap : Nat) (v : Value) (w : World) (hXY : X.length = Y.length) (hB : RowB w R (P ++ X ++ M ++ Y ++ Q)) (hw : w0.grownBy w (some R)) (a b n N : Nat)
    (ha : a = P.length) (hb : b = P.length + X.length + M.length) (hn : n = X.length) (hN : N = (P ++ X ++ M ++ Y ++ Q).length) (hl : N ≤ 1000) :
    Calls Tryz.prog 123 #[.slice (some ⟨R, 0, none⟩) N cap, .int .i64 a, .int .i64 b, .int .i64 n, v] w fun e w' =>
      e = .returned (.tuple #[]) ∧ RowB w' R (P ++ Y ++ M ++ X ++ Q) ∧ w0.grownBy w' (some R) := by
  have HN := Lib.hid hN
  have HA := Lib.hid ha
  have HBb := Lib.hid hb
  have Hn := Lib.hid hn
  have hlen := hN
  simp only [List.length_append] at hlen
  have hab : a ≤ 1000 ∧ b ≤ 1000 ∧ n ≤ 1000 := by omega
  obtain ⟨ha1, hb1, hn1⟩ := hab
  have HL := Lib.hid hlen
  clear hN ha hb hn hlen
  go_enter Tryz.func123, Tryz.ntmps123
  go_wp2_with fail
  go_loopw [10] (fun u wr => ∃ i : Nat, i ≤ n ∧ u = .int .i64 i ∧ RowB wr R (exch P X M Y Q i) ∧ w0.grownBy wr (some R)) (fun u _ => n - (intOf u).toNat)
  case atStart => exact ⟨0, Nat.zero_le _, rfl, by unfold exch; simpa using hB, hw⟩
  case round =>
    clear hB hw
    obtain ⟨i, hi, rfl, hB, hw⟩ := hrel
    by_cases hlt : i < n
    · have hbt : decide ((i : Int) < (n : Int)) = true := by simp; omega
      obtain ⟨x, hx⟩ : ∃ x, X[i]? = some x := ⟨_, List.getElem?_eq_getElem (by have := Hn.out; omega)⟩
      obtain ⟨y, hy⟩ : ∃ y, Y[i]? = some y := ⟨_, List.getElem?_eq_getElem (by have := Hn.out; omega)⟩
      obtain ⟨s1, s2⟩ := exch_split (P := P) (M := M) (Q := Q) hx hy
      rw [s1] at hB
      obtain ⟨p, hp⟩ : ∃ p, p = a + i := ⟨_, rfl⟩
      obtain ⟨r, hr⟩ : ∃ r, r = b + i := ⟨_, rfl⟩
      have e1 : p = (P ++ Y.take i).length := by rw [List.length_append, List.length_take, hp, HA.out]; have := Hn.out; omega
      have e2 : r = (P ++ Y.take i).length + 1 + (X.drop (i + 1) ++ M ++ X.take i).length := by
        rw [hr, ← e1, hp, HBb.out]; simp only [List.length_append, List.length_drop, List.length_take]; have := Hn.out; have := HA.out; omega
      have cx : wr.cell? ⟨R, p, none⟩ = some (.int .i64 x) := hB.at_ (by rw [e1]; exact (two_at' _ _ _ _ _).1)
      have cy : wr.cell? ⟨R, r, none⟩ = some (.int .i64 y) := hB.at_ (by rw [e2]; exact (two_at' _ _ _ _ _).2)
      have fx : wr.frozen? ⟨R, p, none⟩ = false := hB.frozen _
      have fy : wr.frozen? ⟨R, r, none⟩ = false := hB.frozen _
      have hne : p ≠ r := by omega
      have hpN : p < N ∧ r < N := by
        have := HL.out; have := Hn.out; have := HA.out; have := HBb.out
        omega
      obtain ⟨hpN, hrN⟩ := hpN
      have t1 : ((a : Int) + (i : Int)).toNat = p := by omega
      have t2 : ((b : Int) + (i : Int)).toNat = r := by omega
      have j1 : (a : Int) + (i : Int) < (N : Int) := by omega
      have j2 : (b : Int) + (i : Int) < (N : Int) := by omega
      have k1 : (0 : Int) ≤ (a : Int) + (i : Int) := by omega
      have k2 : (0 : Int) ≤ (b : Int) + (i : Int) := by omega
      have HS2 := Lib.hid s2
      have E1 := Lib.hid e1
      have E2 := Lib.hid e2
      clear s1 s2 e1 e2 hp hr hx hy
      go_wp2_with fail
      go_big_region
      all_goals go_wp2_with fail
      go_roundw
      case rel =>
        refine ⟨i + 1, by omega, by go_num, ?_, ?_⟩
        · have h1 := (hB.set_ p y).set_ r x
          rw [HS2.out]
          have h2 := two_swap' (P ++ Y.take i) (X.drop (i + 1) ++ M ++ X.take i) (Y.drop (i + 1) ++ Q) x y
          rw [← E2.out, ← E1.out] at h2
          rw [h2] at h1
          exact h1
        · exact only_setCell (only_setCell (only_drew hw) (.inl rfl) _) (.inl rfl) _
      case measure => simp [intOf]; omega
    · have hbf : decide ((i : Int) < (n : Int)) = false := by simp; omega
      have hin : i = n := by omega
      subst hin
      have e : exch P X M Y Q i = P ++ Y ++ M ++ X ++ Q := by
        have := Hn.out
        unfold exch
        rw [List.take_of_length_le (by omega), List.take_of_length_le (by omega), List.drop_of_length_le (by omega), List.drop_of_length_le (by omega)]
        simp
      rw [e] at hB
      clear e
      go_wp2_with fail
      go_end0
      exact ⟨rfl, hB, hw⟩
end Go.Proofs.YtpklcjbdmikbdaaGreat
namespace Go.Proofs.YtpklcjbdmikbdaaGreat
open Go.RowKit

set_option maxHeartbeats 2000000 in
theorem rotate_any {w0 : World} {R : Nat} (P A B Q : List Int) (cap : Nat) (v : Value) (w : World) (hB : RowB w R (P ++ A ++ B ++ Q)) (hw : w0.grownBy w (some R)) (a m b N : Nat)
    (ha : a = P.length) (hm : m = P.length + A.length) (hb : b = P.length + A.length + B.length) (hN : N = (P ++ A ++ B ++ Q).length) (hl : N ≤ 1000) (hA0 : 0 < A.length) (hB0 : 0 < B.length) :
    Calls Tryz.prog 116 #[.slice (some ⟨R, 0, none⟩) N cap, .int .i64 a, .int .i64 m, .int .i64 b, v] w fun e w' =>
      e = .returned (.tuple #[]) ∧ RowB w' R (P ++ B ++ A ++ Q) ∧ w0.grownBy w' (some R) := by
  have hlen := hN
  simp only [List.length_append] at hlen
  have hab : a ≤ 1000 ∧ m ≤ 1000 ∧ b ≤ 1000 := by omega
  obtain ⟨ha1, hm1, hb1⟩ := hab
  have q1 : (m : Int) - (a : Int) = (A.length : Nat) := by omega
  have q2 : (b : Int) - (m : Int) = (B.length : Nat) := by omega
  have HM := Lib.hid hm
  have HL := Lib.hid hlen
  clear hN ha hb hm hlen
  obtain ⟨i0, hi0⟩ : ∃ i0, i0 = A.length := ⟨_, rfl⟩
  obtain ⟨j0, hj0⟩ : ∃ j0, j0 = B.length := ⟨_, rfl⟩
  rw [← hi0] at q1
  rw [← hj0] at q2
  have HI0 := Lib.hid hi0
  have HJ0 := Lib.hid hj0
  have hij : i0 ≤ 1000 ∧ j0 ≤ 1000 := by have := HL.out; omega
  obtain ⟨hi1, hj1⟩ := hij
  clear hi0 hj0
  go_enter Tryz.func116, Tryz.ntmps116
  go_wp2_with fail
  go_loopw [10, 11] (fun u t wr => ∃ (i j : Nat) (U A' B' V : List Int), u = .int .i64 i ∧ t = .int .i64 j ∧ 0 < i ∧ 0 < j ∧ i ≤ m ∧ m + j ≤ N ∧ Hid (A'.length = i ∧ B'.length = j ∧ P.length + U.length + i = m ∧ U ++ B' ++ A' ++ V = B ++ A ∧ N = (P ++ U ++ A' ++ B' ++ (V ++ Q)).length) ∧
      RowB wr R (P ++ U ++ A' ++ B' ++ (V ++ Q)) ∧ w0.grownBy wr (some R)) (fun u t _ => (intOf u).toNat + (intOf t).toNat)
  case atStart =>
    have h1 := HI0.out
    have h2 := HJ0.out
    have h3 := HM.out
    have h4 := HL.out
    refine ⟨i0, j0, [], A, B, [], rfl, rfl, by omega, by omega, by omega, by omega, ⟨h1.symm, h2.symm, by simp; omega, by simp, ?_⟩, by simpa using hB, hw⟩
    simp only [List.length_append, List.length_nil]
    omega
  case round =>
    clear hB hw
    obtain ⟨i, j, U, A', B', V, rfl, rfl, hi, hj, him, hjN, hH, hB, hw⟩ := hrel
    by_cases hne : i = j
    · subst hne
      have hbf : ((i : Int) != (i : Int)) = false := by simp
      obtain ⟨g1, g2, g3, g4, g5⟩ := hH.out
      have q3 : (m : Int) - (i : Int) = (m - i : Nat) := by omega
      have M := fun W (hB : RowB W R (P ++ U ++ A' ++ [] ++ B' ++ (V ++ Q))) hW => Lib.hid (swapRange_any (w0 := w0) (P ++ U) A' [] B' (V ++ Q) cap v W (by omega) hB hW (m - i) m i N (by simp; omega) (by simp; omega) g1.symm (by rw [g5]; simp) hl)
      have M2 := Lib.hid (M wr (by simpa using hB) hw)
      clear M g1 g2 g3 g4 g5
      obtain ⟨k, hk⟩ : ∃ k, k = m - i := ⟨_, rfl⟩
      rw [← hk] at M2 q3
      have HK := Lib.hid hk
      clear hk
      go_wp2_with fail
      refine M2.out.out.mono ?_
      rintro e w2 ⟨rfl, hB2, hw2⟩
      go_wp2_with fail
      go_end0
      refine ⟨rfl, ?_, hw2⟩
      have g4 := hH.out.2.2.2.1
      have e : P ++ U ++ B' ++ [] ++ A' ++ (V ++ Q) = P ++ (U ++ B' ++ A' ++ V) ++ Q := by simp
      rw [e, g4] at hB2
      simpa using hB2
    · have hbt : ((i : Int) != (j : Int)) = true := by simp; omega
      by_cases hgt : j < i
      · have hbg : decide ((i : Int) > (j : Int)) = true := by simp; omega
        have hbg2 : (j : Int) < (i : Int) := by omega
        obtain ⟨g1, g2, g3, g4, g5⟩ := hH.out
        have q3 : (m : Int) - (i : Int) = (m - i : Nat) := by omega
        have q4 : (i : Int) - (j : Int) = (i - j : Nat) := by omega
        have eA : A' = A'.take j ++ A'.drop j := (List.take_append_drop j A').symm
        have l1 : (A'.take j).length = j := by rw [List.length_take]; omega
        have l2 : (A'.drop j).length = i - j := by rw [List.length_drop]; omega
        have G4 := Lib.hid g4
        clear g4
        generalize A'.take j = A1 at *
        generalize A'.drop j = A2 at *
        subst eA
        have hB' : RowB wr R (P ++ U ++ A1 ++ A2 ++ B' ++ (V ++ Q)) := by simpa using hB
        have M2 := Lib.hid (swapRange_any (w0 := w0) (P ++ U) A1 A2 B' (V ++ Q) cap v wr (by omega) hB' hw (m - i) m j N (by simp; omega) (by simp; omega) l1.symm (by rw [g5]; simp) hl)
        obtain ⟨k, hk⟩ : ∃ k, k = m - i := ⟨_, rfl⟩
        obtain ⟨d, hd⟩ : ∃ d, d = i - j := ⟨_, rfl⟩
        rw [← hk] at M2 q3
        rw [← hd] at q4 l2
        have hk1 : k ≤ 1000 := by omega
        have hd1 : 0 < d ∧ d ≤ m := by omega
        obtain ⟨hd0, hd1⟩ := hd1
        have HH : Hid (A2.length = d ∧ A1.length = j ∧ P.length + (U ++ B').length + d = m ∧ (U ++ B') ++ A1 ++ A2 ++ V = B ++ A ∧ N = (P ++ (U ++ B') ++ A2 ++ A1 ++ (V ++ Q)).length) := by
          refine ⟨l2, l1, by rw [List.length_append]; omega, by rw [← G4.out]; simp, ?_⟩
          simp only [List.length_append] at g5 ⊢
          omega
        clear g1 g2 g3 g5 hk l1 l2 hB hB' hH G4
        have HD := Lib.hid hd
        clear hd
        go_wp2_with fail
        refine M2.out.mono ?_
        rintro e w2 ⟨rfl, hB2, hw2⟩
        go_wp2_with fail
        go_roundw
        case rel => exact ⟨d, j, U ++ B', A2, A1, V, rfl, rfl, hd0, hj, hd1, hjN, HH, by simpa using hB2, hw2⟩
        case measure => have := HD.out; simp [intOf]; omega
      · have hbg : decide ((i : Int) > (j : Int)) = false := by simp; omega
        have hbg2 : ¬ (j : Int) < (i : Int) := by omega
        obtain ⟨g1, g2, g3, g4, g5⟩ := hH.out
        have q3 : (m : Int) - (i : Int) = (m - i : Nat) := by omega
        have q4 : (j : Int) - (i : Int) = (j - i : Nat) := by omega
        have q5 : (m : Int) + (j : Int) - (i : Int) = (m + j - i : Nat) := by omega
        have eA : B' = B'.take (j - i) ++ B'.drop (j - i) := (List.take_append_drop (j - i) B').symm
        have l1 : (B'.take (j - i)).length = j - i := by rw [List.length_take]; omega
        have l2 : (B'.drop (j - i)).length = i := by rw [List.length_drop]; omega
        have G4 := Lib.hid g4
        clear g4
        generalize B'.take (j - i) = B1 at *
        generalize B'.drop (j - i) = B2 at *
        subst eA
        have hB' : RowB wr R (P ++ U ++ A' ++ B1 ++ B2 ++ (V ++ Q)) := by simpa using hB
        have M2 := Lib.hid (swapRange_any (w0 := w0) (P ++ U) A' B1 B2 (V ++ Q) cap v wr (by omega) hB' hw (m - i) (m + j - i) i N (by simp; omega) (by simp; omega) g1.symm (by rw [g5]; simp) hl)
        obtain ⟨k, hk⟩ : ∃ k, k = m - i := ⟨_, rfl⟩
        obtain ⟨d, hd⟩ : ∃ d, d = j - i := ⟨_, rfl⟩
        obtain ⟨r, hr⟩ : ∃ r, r = m + j - i := ⟨_, rfl⟩
        rw [← hk, ← hr] at M2
        rw [← hk] at q3
        rw [← hd] at q4 l1
        rw [← hr] at q5
        have hk1 : k ≤ 1000 := by omega
        have hr1 : r ≤ 1000 := by omega
        have hd1 : 0 < d ∧ m + d ≤ N := by omega
        obtain ⟨hd0, hd1⟩ := hd1
        have HH : Hid (B2.length = i ∧ B1.length = d ∧ P.length + U.length + i = m ∧ U ++ B1 ++ B2 ++ (A' ++ V) = B ++ A ∧ N = (P ++ U ++ B2 ++ B1 ++ ((A' ++ V) ++ Q)).length) := by
          refine ⟨l2, l1, g3, by rw [← G4.out]; simp, ?_⟩
          simp only [List.length_append] at g5 ⊢
          omega
        clear g1 g2 g3 g5 hk hr l1 l2 hB hB' hH G4
        have HD := Lib.hid hd
        clear hd
        go_wp2_with fail
        refine M2.out.mono ?_
        rintro e w2 ⟨rfl, hB2, hw2⟩
        go_wp2_with fail
        go_roundw
        case rel => exact ⟨i, d, U, B2, B1, A' ++ V, rfl, rfl, hi, hd0, him, hd1, HH, by simpa using hB2, hw2⟩
        case measure => have := HD.out; simp [intOf]; omega
end Go.Proofs.YtpklcjbdmikbdaaGreat
namespace Go.Proofs.YtpklcjbdmikbdaaGreat
open Go.RowKit

theorem row_mid {P B Q : List Int} {x y : Int} {t : Nat} (hy : B[t]? = some y) : (P ++ (x :: B) ++ Q)[P.length]? = some x ∧ (P ++ (x :: B) ++ Q)[P.length + 1 + t]? = some y := by
  have ht := (List.getElem?_eq_some_iff.1 hy).1
  rw [List.append_assoc, List.cons_append]
  refine ⟨at_mid _ _ _, ?_⟩
  rw [List.getElem?_append_right (by omega), show P.length + 1 + t - P.length = t + 1 by omega, List.getElem?_cons_succ, List.getElem?_append_left ht]
  exact hy
/-- Where x comes into a sorted list. -/
def Cut (p : Int → Prop) (B : List Int) (lo hi : Nat) : Prop := lo ≤ hi ∧ hi ≤ B.length ∧ (∀ t y, t < lo → B[t]? = some y → p y) ∧ ∀ t y, hi ≤ t → B[t]? = some y → ¬ p y

theorem Cut.low {p : Int → Prop} {B : List Int} {lo hi t : Nat} {y : Int} (h : Cut p B lo hi) (ht2 : t < hi) (hp : p y) (hm : ∀ s z, s ≤ t → B[s]? = some z → p y → p z) : Cut p B (t + 1) hi :=
  ⟨by omega, h.2.1, fun s z hs hz => hm s z (by omega) hz hp, h.2.2.2⟩
theorem Cut.high {p : Int → Prop} {B : List Int} {lo hi t : Nat} {y : Int} (h : Cut p B lo hi) (ht : lo ≤ t) (ht2 : t < hi) (hp : ¬ p y) (hm : ∀ s z, t ≤ s → B[s]? = some z → p z → p y) : Cut p B lo t :=
  ⟨ht, by have := h.2.1; omega, h.2.2.1, fun s z hs hz hp' => hp (hm s z hs hz hp')⟩
theorem sorted_at {le : Int → Int → Prop} (T : TotLe le) {B : List Int} (h : B.Pairwise le) {s t : Nat} {y z : Int} (hst : s ≤ t) (hz : B[s]? = some z) (hy : B[t]? = some y) : le z y := by
  rcases Nat.lt_or_eq_of_le hst with h1 | rfl
  · have l1 := (List.getElem?_eq_some_iff.1 hz)
    have l2 := (List.getElem?_eq_some_iff.1 hy)
    obtain ⟨a1, e1⟩ := l1
    obtain ⟨a2, e2⟩ := l2
    have := List.pairwise_iff_getElem.1 h s t a1 a2 h1
    rwa [e1, e2] at this
  · rw [hz] at hy
    obtain rfl : z = y := by simpa using hy
    exact (T.total z z).elim id id

set_option maxRecDepth 100000 in
set_option maxHeartbeats 4000000 in
theorem merge_left {g : Nat} {cb : Array Value} {cf : Int → Int → Int} {w0 : World} {R : Nat} {D : Int → Prop} (C : Cmp g cb cf w0 R D) {le : Int → Int → Prop} (T : TotLe le)
    (P B Q : List Int) (x : Int) (cap : Nat) (w : World) (hD : D x ∧ ∀ y ∈ B, D y) (hX : ∀ y ∈ B, Agrees cf le x y) (sB : B.Pairwise le) (hB : RowB w R (P ++ (x :: B) ++ Q)) (hw : w0.grownBy w (some R)) (a m b N : Nat)
    (ha : a = P.length) (hm : m = P.length + 1) (hb : b = P.length + 1 + B.length) (hN : N = (P ++ (x :: B) ++ Q).length) (hl : N ≤ 1000) :
    Calls Tryz.prog 100 #[.slice (some ⟨R, 0, none⟩) N cap, .int .i64 a, .int .i64 m, .int .i64 b, .func (.func g) #[] cb] w fun e w' =>
      e = .returned (.tuple #[]) ∧ ∃ C', C'.Perm (x :: B) ∧ C'.Pairwise le ∧ RowB w' R (P ++ C' ++ Q) ∧ w0.grownBy w' (some R) := by
  have eg := C.enters
  have HC := Lib.hid C
  have HT := Lib.hid T
  have HX := Lib.hid hX
  have HD := Lib.hid hD
  have HS := Lib.hid sB
  clear C T hX hD sB
  have hlen := hN
  simp only [List.length_append, List.length_cons] at hlen
  have hab : a ≤ 1000 ∧ m ≤ 1000 ∧ b ≤ 1000 ∧ b ≤ N := by omega
  obtain ⟨ha1, hm1, hb1, hbN⟩ := hab
  have q1 : (m : Int) - (a : Int) = 1 := by omega
  have HL := Lib.hid (show m = a + 1 ∧ a = P.length ∧ b = m + B.length ∧ N = a + 1 + B.length + Q.length by omega)
  clear hN ha hb hm hlen
  go_enter Tryz.func100, Tryz.ntmps100
  go_wp2_with fail
  go_loopw [10, 11] (fun u t wr => ∃ (lo hi : Nat), u = .int .i64 (m + lo : Nat) ∧ t = .int .i64 (m + hi : Nat) ∧ Hid (Cut (fun y => ¬ le x y) B lo hi) ∧ RowB wr R (P ++ (x :: B) ++ Q) ∧ w0.grownBy wr (some R)) (fun u t _ => (intOf t).toNat - (intOf u).toNat)
  case atStart =>
    have := HL.out
    exact ⟨0, B.length, by rw [Nat.add_zero], by congr 1; omega, ⟨Nat.zero_le _, Nat.le_refl _, fun t y h => by omega, fun t y h hy => by have := (List.getElem?_eq_some_iff.1 hy).1; omega⟩, hB, hw⟩
  case round =>
    clear hB hw
    obtain ⟨lo, hi, rfl, rfl, hC, hB, hw⟩ := hrel
    by_cases hlt : lo < hi
    · obtain ⟨i, hi'⟩ : ∃ i, i = m + lo := ⟨_, rfl⟩
      obtain ⟨j, hj'⟩ : ∃ j, j = m + hi := ⟨_, rfl⟩
      rw [← hi', ← hj']
      have hij : i < j := by omega
      have hj1 : j ≤ 1000 := by have := hC.out.2.1; have := HL.out; omega
      have hbt : decide ((i : Int) < (j : Int)) = true := by simp; omega
      have hbt2 : (i : Int) < (j : Int) := by omega
      have HI := Lib.hid hi'
      have HJ := Lib.hid hj'
      clear hi' hj'
      obtain ⟨t, ht⟩ : ∃ t, t = (lo + hi) / 2 := ⟨_, rfl⟩
      obtain ⟨h, hh⟩ : ∃ h, h = m + t := ⟨_, rfl⟩
      have q3 : ((i : Int) + (j : Int)) / 2 = (h : Int) := by have := HI.out; have := HJ.out; omega
      have ht1 : lo ≤ t ∧ t < hi := by omega
      have htB : t < B.length := by have := hC.out.2.1; omega
      obtain ⟨y, hy⟩ : ∃ y, B[t]? = some y := ⟨_, List.getElem?_eq_getElem htB⟩
      have cx : wr.cell? ⟨R, a, none⟩ = some (.int .i64 x) := hB.at_ (by rw [HL.out.2.1]; exact (row_mid hy).1)
      have cy : wr.cell? ⟨R, h, none⟩ = some (.int .i64 y) := hB.at_ (by
        have e : h = P.length + 1 + t := by have := HL.out; omega
        rw [e]; exact (row_mid hy).2)
      have lR := hB.lt
      have hh1 : h < N := by have := HL.out; omega
      have haN : a < N := by have := HL.out; omega
      have hyB : y ∈ B := List.mem_of_getElem? hy
      have hag := Lib.hid (HX.out y hyB)
      have M : Hid (∀ z : Later wr, Hid (Calls Tryz.prog g (#[.int .i64 y, .int .i64 x] ++ cb) z.val fun e w' => e = .returned (.int .i64 (cf y x)) ∧ ∃ z2 : Later wr, w' = z2.val)) := fun z => later_call (HC.out.tells z.val (only_trans_below hw z.property) y x (HD.out.2 y hyB) HD.out.1)
      have hx := later_cell (w := wr)
      have HH := Lib.hid hh
      have HTt := Lib.hid ht
      have HY := Lib.hid hy
      clear hh ht hy hyB
      by_cases hlv : cf y x < 0
      · have hb6 : decide (cf y x < 0) = true := by simpa using hlv
        have NL := Lib.hid (hag.out.1 hlv)
        go_wp2_with fail
        refine wp_region_later (by kernel_rfl) (by kernel_rfl) ?_
        repeat (go_big_quiet_step ((first | (go_at_fn g; exact (M.out _).out))))
        refine wpQuiet_nil ?_
        rintro w2 ⟨⟨_, hb2⟩, rfl⟩
        have hB2 := hB.later hb2
        go_wp2_with fail
        go_roundw
        case rel =>
          refine ⟨t + 1, hi, by rw [HH.out]; go_num, by rw [HJ.out], hC.out.low ht1.2 NL.out ?_, hB2, only_trans_below hw hb2⟩
          exact fun s z hs hz hp hl => hp (HT.out.trans x z y hl (sorted_at HT.out HS.out hs hz HY.out))
        case measure => have := HI.out; have := HJ.out; have := HH.out; simp [intOf]; omega
      · have hb6 : decide (cf y x < 0) = false := by simpa using hlv
        have NL : Hid (¬ ¬ le x y) := fun h => hlv (hag.out.2 h)
        go_wp2_with fail
        refine wp_region_later (by kernel_rfl) (by kernel_rfl) ?_
        repeat (go_big_quiet_step ((first | (go_at_fn g; exact (M.out _).out))))
        refine wpQuiet_nil ?_
        rintro w2 ⟨⟨_, hb2⟩, rfl⟩
        have hB2 := hB.later hb2
        go_wp2_with fail
        go_roundw
        case rel =>
          refine ⟨lo, t, by rw [HI.out], by rw [HH.out], hC.out.high ht1.1 ht1.2 NL.out ?_, hB2, only_trans_below hw hb2⟩
          exact fun s z hs hz hp hl => hp (HT.out.trans x y z hl (sorted_at HT.out HS.out hs HY.out hz))
        case measure => have := HI.out; have := HJ.out; have := HH.out; simp [intOf]; omega
    · obtain rfl : lo = hi := by have := hC.out.1; omega
      have hlB : lo ≤ B.length := hC.out.2.1
      obtain ⟨i, hi'⟩ : ∃ i, i = m + lo := ⟨_, rfl⟩
      rw [← hi']
      have hbt : decide ((i : Int) < (i : Int)) = false := by simp
      have hi1 : i ≤ 1000 := by have := HL.out; omega
      have q3 : (i : Int) - 1 = ((a + lo : Nat) : Int) := by have := HL.out; omega
      obtain ⟨z, hz⟩ : ∃ z, z = a + lo := ⟨_, rfl⟩
      rw [← hz] at q3
      have hz1 : z < N := by have := HL.out; omega
      have hNb : N ≤ 1000 := hl
      have HZ := Lib.hid hz
      have HI := Lib.hid hi'
      clear hz hi'
      go_wp2_with fail
      go_loopw [13] (fun u wr => ∃ t : Nat, t ≤ lo ∧ u = .int .i64 (a + t : Nat) ∧ RowB wr R ((P ++ B.take t) ++ x :: (B.drop t ++ Q)) ∧ w0.grownBy wr (some R)) (fun u _ => z - (intOf u).toNat)
      case atStart => exact ⟨0, Nat.zero_le _, by rw [Nat.add_zero], by simpa using hB, hw⟩
      case round =>
        clear hB hw
        obtain ⟨t, ht, rfl, hB, hw⟩ := hrel
        obtain ⟨k, hk⟩ : ∃ k, k = a + t := ⟨_, rfl⟩
        rw [← hk]
        by_cases hlt : t < lo
        · have hbt : decide ((k : Int) < (z : Int)) = true := by have := HZ.out; simp; omega
          have hkz : (k : Int) < (z : Int) := by have := HZ.out; omega
          obtain ⟨y, hy⟩ : ∃ y, B[t]? = some y := ⟨_, List.getElem?_eq_getElem (by omega)⟩
          have hd : B.drop t = y :: B.drop (t + 1) := by rw [List.drop_eq_getElem_cons (by omega), (List.getElem?_eq_some_iff.1 hy).2]
          have htk : B.take (t + 1) = B.take t ++ [y] := by rw [List.take_add_one, hy]; rfl
          rw [hd] at hB
          have e1 : k = (P ++ B.take t).length := by rw [List.length_append, List.length_take]; have := HL.out; omega
          have cx : wr.cell? ⟨R, k, none⟩ = some (.int .i64 x) := hB.at_ (by rw [e1]; exact at_mid _ _ _)
          have cy : wr.cell? ⟨R, k + 1, none⟩ = some (.int .i64 y) := hB.at_ (by rw [e1]; exact at_mid1 _ _ _ _)
          have fx : wr.frozen? ⟨R, k, none⟩ = false := hB.frozen _
          have fy : wr.frozen? ⟨R, k + 1, none⟩ = false := hB.frozen _
          obtain ⟨k1, hk1⟩ : ∃ k1, k1 = k + 1 := ⟨_, rfl⟩
          have t1 : ((k : Int) + 1).toNat = k1 := by omega
          rw [← hk1] at cy fy
          have hne : k ≠ k1 := by omega
          have j1 : (k : Int) + 1 < (N : Int) := by omega
          have j2 : (k : Int) < (N : Int) := by omega
          have k2 : (0 : Int) ≤ (k : Int) + 1 := by omega
          have h1 := (hB.set_ k y).set_ k1 x
          have h2 := swap_next (P ++ B.take t) (B.drop (t + 1) ++ Q) x y
          rw [← e1, ← hk1] at h2
          rw [List.cons_append, h2] at h1
          have h3 : (P ++ B.take t) ++ y :: x :: (B.drop (t + 1) ++ Q) = (P ++ B.take (t + 1)) ++ x :: (B.drop (t + 1) ++ Q) := by rw [htk]; simp
          rw [h3] at h1
          have H1 := Lib.hid h1
          have HK := Lib.hid hk
          clear h1 h2 h3 hd htk e1 hk hk1 hy
          go_wp2_with fail
          go_big_region
          all_goals go_wp2_with fail
          go_roundw
          case rel =>
            refine ⟨t + 1, by omega, by rw [HK.out]; go_num, H1.out, ?_⟩
            exact only_setCell (only_setCell (only_drew hw) (.inl rfl) _) (.inl rfl) _
          case measure => simp [intOf]; omega
        · obtain rfl : t = lo := by omega
          have hkz : k = z := by have := HZ.out; omega
          subst hkz
          have hbt : decide ((k : Int) < (k : Int)) = false := by simp
          clear hk
          go_wp2_with fail
          (try simp only [Exit.inBlock, Exit.then]); refine bodyPost_ret (results_none rfl _ _ _) rfl ?_
          have h1 := hC.out
          have hBe : B = B.take t ++ B.drop t := (List.take_append_drop t B).symm
          refine ⟨rfl, B.take t ++ x :: B.drop t, ?_, ?_, by simpa using hB, hw⟩
          · exact List.perm_middle.trans (by rw [← hBe])
          · refine ins_sorted (by rw [← hBe]; exact HS.out) (fun s hs => ?_) (fun s hs => ?_)
            · obtain ⟨n, hn⟩ := List.getElem?_of_mem hs
              rw [List.getElem?_drop] at hn
              have := h1.2.2.2 (t + n) s (by omega) hn
              by_cases h : le x s
              · exact h
              · exact absurd h this
            · obtain ⟨n, hn⟩ := List.getElem?_of_mem hs
              rw [List.getElem?_take] at hn
              split at hn
              · rename_i hlt2
                have := h1.2.2.1 n s hlt2 hn
                exact (HT.out.total s x).resolve_right this
              · simp at hn
end Go.Proofs.YtpklcjbdmikbdaaGreat
namespace Go.Proofs.YtpklcjbdmikbdaaGreat
open Go.RowKit

set_option maxRecDepth 100000 in
set_option maxHeartbeats 4000000 in
theorem merge_right {g : Nat} {cb : Array Value} {cf : Int → Int → Int} {w0 : World} {R : Nat} {D : Int → Prop} (C : Cmp g cb cf w0 R D) {le : Int → Int → Prop} (T : TotLe le)
    (P A Q : List Int) (y : Int) (cap : Nat) (w : World) (hD : D y ∧ ∀ x ∈ A, D x) (hX : ∀ x ∈ A, Agrees cf le x y) (sA : A.Pairwise le) (hA2 : 2 ≤ A.length) (hB : RowB w R (P ++ A ++ y :: Q)) (hw : w0.grownBy w (some R)) (a m b N : Nat)
    (ha : a = P.length) (hm : m = P.length + A.length) (hb : b = P.length + A.length + 1) (hN : N = (P ++ A ++ y :: Q).length) (hl : N ≤ 1000) :
    Calls Tryz.prog 100 #[.slice (some ⟨R, 0, none⟩) N cap, .int .i64 a, .int .i64 m, .int .i64 b, .func (.func g) #[] cb] w fun e w' =>
      e = .returned (.tuple #[]) ∧ ∃ C', C'.Perm (A ++ [y]) ∧ C'.Pairwise le ∧ RowB w' R (P ++ C' ++ Q) ∧ w0.grownBy w' (some R) := by
  have eg := C.enters
  have HC := Lib.hid C
  have HT := Lib.hid T
  have HX := Lib.hid hX
  have HD := Lib.hid hD
  have HS := Lib.hid sA
  clear C T hX hD sA
  have hlen := hN
  simp only [List.length_append, List.length_cons] at hlen
  have hab : a ≤ 1000 ∧ m ≤ 1000 ∧ b ≤ 1000 ∧ b ≤ N := by omega
  obtain ⟨ha1, hm1, hb1, hbN⟩ := hab
  obtain ⟨nA, hnA⟩ : ∃ nA, nA = A.length := ⟨_, rfl⟩
  have q1 : (m : Int) - (a : Int) = (nA : Int) := by omega
  have q0 : ((nA : Int) == 1) = false := by simp; omega
  have q2 : (b : Int) - (m : Int) = 1 := by omega
  have HL := Lib.hid (show m = a + A.length ∧ a = P.length ∧ b = m + 1 ∧ N = a + A.length + 1 + Q.length by omega)
  have HNA := Lib.hid hnA
  clear hnA
  clear hN ha hb hm hlen
  go_enter Tryz.func100, Tryz.ntmps100
  go_wp2_with fail
  go_loopw [14, 15] (fun u t wr => ∃ (lo hi : Nat), u = .int .i64 (a + lo : Nat) ∧ t = .int .i64 (a + hi : Nat) ∧ Hid (Cut (fun x => le x y) A lo hi) ∧ RowB wr R (P ++ A ++ y :: Q) ∧ w0.grownBy wr (some R)) (fun u t _ => (intOf t).toNat - (intOf u).toNat)
  case atStart =>
    have := HL.out
    exact ⟨0, A.length, by rw [Nat.add_zero], by congr 1; omega, ⟨Nat.zero_le _, Nat.le_refl _, fun t y h => by omega, fun t y h hy => by have := (List.getElem?_eq_some_iff.1 hy).1; omega⟩, hB, hw⟩
  case round =>
    clear hB hw
    obtain ⟨lo, hi, rfl, rfl, hC, hB, hw⟩ := hrel
    by_cases hlt : lo < hi
    · obtain ⟨i, hi'⟩ : ∃ i, i = a + lo := ⟨_, rfl⟩
      obtain ⟨j, hj'⟩ : ∃ j, j = a + hi := ⟨_, rfl⟩
      rw [← hi', ← hj']
      have hij : i < j := by omega
      have hj1 : j ≤ 1000 := by have := hC.out.2.1; have := HL.out; omega
      have hbt : decide ((i : Int) < (j : Int)) = true := by simp; omega
      have hbt2 : (i : Int) < (j : Int) := by omega
      have HI := Lib.hid hi'
      have HJ := Lib.hid hj'
      clear hi' hj'
      obtain ⟨t, ht⟩ : ∃ t, t = (lo + hi) / 2 := ⟨_, rfl⟩
      obtain ⟨h, hh⟩ : ∃ h, h = a + t := ⟨_, rfl⟩
      have q3 : ((i : Int) + (j : Int)) / 2 = (h : Int) := by have := HI.out; have := HJ.out; omega
      have ht1 : lo ≤ t ∧ t < hi := by omega
      have htA : t < A.length := by have := hC.out.2.1; omega
      obtain ⟨x, hx⟩ : ∃ x, A[t]? = some x := ⟨_, List.getElem?_eq_getElem htA⟩
      have cx : wr.cell? ⟨R, h, none⟩ = some (.int .i64 x) := hB.at_ (by
        have e : h = P.length + t := by have := HL.out; omega
        rw [e, List.append_assoc, List.getElem?_append_right (by omega), show P.length + t - P.length = t by omega, List.getElem?_append_left htA]; exact hx)
      have cy : wr.cell? ⟨R, m, none⟩ = some (.int .i64 y) := hB.at_ (by
        have e : m = (P ++ A).length := by rw [List.length_append]; have := HL.out; omega
        rw [e]; exact at_mid _ _ _)
      have lR := hB.lt
      have hh1 : h < N := by have := HL.out; omega
      have hmN : m < N := by have := HL.out; omega
      have hxA : x ∈ A := List.mem_of_getElem? hx
      have hag := Lib.hid (HX.out x hxA)
      have M : Hid (∀ z : Later wr, Hid (Calls Tryz.prog g (#[.int .i64 y, .int .i64 x] ++ cb) z.val fun e w' => e = .returned (.int .i64 (cf y x)) ∧ ∃ z2 : Later wr, w' = z2.val)) := fun z => later_call (HC.out.tells z.val (only_trans_below hw z.property) y x HD.out.1 (HD.out.2 x hxA))
      have hxl := later_cell (w := wr)
      have HH := Lib.hid hh
      have HTt := Lib.hid ht
      have HXx := Lib.hid hx
      clear hh ht hx hxA
      by_cases hlv : cf y x < 0
      · have hb6 : decide (cf y x < 0) = true := by simpa using hlv
        have NL := Lib.hid (hag.out.1 hlv)
        go_wp2_with fail
        refine wp_region_later (by kernel_rfl) (by kernel_rfl) ?_
        repeat (go_big_quiet_step ((first | (go_at_fn g; exact (M.out _).out))))
        refine wpQuiet_nil ?_
        rintro w2 ⟨⟨_, hb2⟩, rfl⟩
        have hB2 := hB.later hb2
        go_wp2_with fail
        go_roundw
        case rel =>
          refine ⟨lo, t, by rw [HI.out], by rw [HH.out], hC.out.high ht1.1 ht1.2 NL.out ?_, hB2, only_trans_below hw hb2⟩
          exact fun s z hs hz hp => HT.out.trans x z y (sorted_at HT.out HS.out hs HXx.out hz) hp
        case measure => have := HI.out; have := HJ.out; have := HH.out; simp [intOf]; omega
      · have hb6 : decide (cf y x < 0) = false := by simpa using hlv
        have NL : Hid (le x y) := by
          by_cases h : le x y
          · exact h
          · exact absurd (hag.out.2 h) hlv
        go_wp2_with fail
        refine wp_region_later (by kernel_rfl) (by kernel_rfl) ?_
        repeat (go_big_quiet_step ((first | (go_at_fn g; exact (M.out _).out))))
        refine wpQuiet_nil ?_
        rintro w2 ⟨⟨_, hb2⟩, rfl⟩
        have hB2 := hB.later hb2
        go_wp2_with fail
        go_roundw
        case rel =>
          refine ⟨t + 1, hi, by rw [HH.out]; go_num, by rw [HJ.out], hC.out.low ht1.2 NL.out ?_, hB2, only_trans_below hw hb2⟩
          exact fun s z hs hz hp => HT.out.trans z x y (sorted_at HT.out HS.out hs hz HXx.out) hp
        case measure => have := HI.out; have := HJ.out; have := HH.out; simp [intOf]; omega
    · obtain rfl : lo = hi := by have := hC.out.1; omega
      have hlA : lo ≤ A.length := hC.out.2.1
      obtain ⟨i, hi'⟩ : ∃ i, i = a + lo := ⟨_, rfl⟩
      rw [← hi']
      have hbt : decide ((i : Int) < (i : Int)) = false := by simp
      have hi1 : i ≤ 1000 := by have := HL.out; omega
      have hNb : N ≤ 1000 := hl
      have HI := Lib.hid hi'
      clear hi'
      go_wp2_with fail
      go_loopw [17] (fun u wr => ∃ t : Nat, lo ≤ t ∧ t ≤ nA ∧ u = .int .i64 (a + t : Nat) ∧ RowB wr R ((P ++ A.take t) ++ y :: (A.drop t ++ Q)) ∧ w0.grownBy wr (some R)) (fun u _ => (intOf u).toNat)
      case atStart =>
        have := HNA.out
        exact ⟨nA, by omega, Nat.le_refl _, by congr 1; have := HL.out; omega, by rw [this, List.take_length, List.drop_length]; simpa using hB, hw⟩
      case round =>
        clear hB hw
        obtain ⟨t, ht, htA, rfl, hB, hw⟩ := hrel
        by_cases hlt : lo < t
        · obtain ⟨t, rfl⟩ : ∃ s, t = s + 1 := ⟨t - 1, by omega⟩
          obtain ⟨p, hp⟩ : ∃ p, p = a + t := ⟨_, rfl⟩
          have ep : ((a + (t + 1) : Nat) : Int) = (p : Int) + 1 := by omega
          rw [ep]
          have hkz : (i : Int) < (p : Int) + 1 := by have := HI.out; omega
          have hkz2 : (i : Int) ≤ (p : Int) := by omega
          have hkz3 : i ≤ p := by omega
          obtain ⟨x, hx⟩ : ∃ x, A[t]? = some x := ⟨_, List.getElem?_eq_getElem (by have := HNA.out; omega)⟩
          have htk : A.take (t + 1) = A.take t ++ [x] := by rw [List.take_add_one, hx]; rfl
          have hd : A.drop t = x :: A.drop (t + 1) := by rw [List.drop_eq_getElem_cons (by have := HNA.out; omega), (List.getElem?_eq_some_iff.1 hx).2]
          rw [htk] at hB
          have e1 : p = (P ++ A.take t).length := by rw [List.length_append, List.length_take]; have := HL.out; have := HNA.out; omega
          have h0 : (P ++ (A.take t ++ [x])) ++ y :: (A.drop (t + 1) ++ Q) = (P ++ A.take t) ++ x :: y :: (A.drop (t + 1) ++ Q) := by simp
          rw [h0] at hB
          have cx : wr.cell? ⟨R, p, none⟩ = some (.int .i64 x) := hB.at_ (by rw [e1]; exact at_mid _ _ _)
          have cy : wr.cell? ⟨R, p + 1, none⟩ = some (.int .i64 y) := hB.at_ (by rw [e1]; exact at_mid1 _ _ _ _)
          have fx : wr.frozen? ⟨R, p, none⟩ = false := hB.frozen _
          have fy : wr.frozen? ⟨R, p + 1, none⟩ = false := hB.frozen _
          obtain ⟨p1, hp1⟩ : ∃ p1, p1 = p + 1 := ⟨_, rfl⟩
          have t1 : ((p : Int) + 1).toNat = p1 := by omega
          rw [← hp1] at cy fy
          have hne : p ≠ p1 := by omega
          have hpN : p + 1 < N := by have := HL.out; have := HNA.out; omega
          have j1 : (p : Int) + 1 < (N : Int) := by omega
          have j2 : (p : Int) < (N : Int) := by omega
          have k2 : (0 : Int) ≤ (p : Int) + 1 := by omega
          have hwp : IntKind.i64.wrap (p : Int) = (p : Int) := by rw [IntKind.wrap_i64]; omega
          have h1 := (hB.set_ p1 x).set_ p y
          have h2 := swap_next (P ++ A.take t) (A.drop (t + 1) ++ Q) x y
          rw [List.set_comm _ _ (by omega), ← e1, ← hp1] at h2
          rw [h2] at h1
          have h3 : (P ++ A.take t) ++ y :: x :: (A.drop (t + 1) ++ Q) = (P ++ A.take t) ++ y :: (A.drop t ++ Q) := by rw [hd]; simp
          rw [h3] at h1
          have H1 := Lib.hid h1
          have HP := Lib.hid hp
          clear h1 h2 h3 hd htk e1 hp hp1 hx h0 ep
          go_wp2_with fail
          go_big_region
          all_goals go_wp2_with fail
          go_roundw
          case rel =>
            refine ⟨t, by omega, by omega, by rw [HP.out], H1.out, ?_⟩
            exact only_setCell (only_setCell (only_drew hw) (.inl rfl) _) (.inl rfl) _
          case measure => simp [intOf]
        · obtain rfl : t = lo := by omega
          obtain ⟨k, hk⟩ : ∃ k, k = a + t := ⟨_, rfl⟩
          rw [← hk]
          have hkz : k = i := by have := HI.out; omega
          subst hkz
          have hbt : decide ((k : Int) < (k : Int)) = false := by simp
          clear hk
          go_wp2_with fail
          (try simp only [Exit.inBlock, Exit.then]); refine bodyPost_ret (results_none rfl _ _ _) rfl ?_
          have h1 := hC.out
          have hAe : A = A.take t ++ A.drop t := (List.take_append_drop t A).symm
          refine ⟨rfl, A.take t ++ y :: A.drop t, ?_, ?_, by simpa using hB, hw⟩
          · exact (List.perm_middle.trans (show (y :: (A.take t ++ A.drop t)).Perm ([y] ++ A) by rw [← hAe]; exact List.Perm.refl _)).trans (List.perm_append_comm (l₁ := [y]))
          · refine ins_sorted (by rw [← hAe]; exact HS.out) (fun s hs => ?_) (fun s hs => ?_)
            · obtain ⟨n, hn⟩ := List.getElem?_of_mem hs
              rw [List.getElem?_drop] at hn
              have := h1.2.2.2 (t + n) s (by omega) hn
              exact (HT.out.total s y).resolve_left this
            · obtain ⟨n, hn⟩ := List.getElem?_of_mem hs
              rw [List.getElem?_take] at hn
              split at hn
              · rename_i hlt2
                exact h1.2.2.1 n s hlt2 hn
              · simp at hn
end Go.Proofs.YtpklcjbdmikbdaaGreat
namespace Go.Proofs.YtpklcjbdmikbdaaGreat
open Go.RowKit

/-- What is said of the merge of two runs. -/
def Merges (g : Nat) (cb : Array Value) (cf : Int → Int → Int) (w0 : World) (R : Nat) (D : Int → Prop) (le : Int → Int → Prop) (f : Nat) : Prop :=
  ∀ (P A B Q : List Int) (cap : Nat) (w : World), A.length + B.length ≤ f → 0 < A.length → 0 < B.length → (∀ x ∈ A ++ B, D x) → (∀ x ∈ A, ∀ y ∈ B, Agrees cf le x y) → A.Pairwise le → B.Pairwise le →
    RowB w R (P ++ A ++ B ++ Q) → w0.grownBy w (some R) → ∀ (a m b N : Nat), a = P.length → m = P.length + A.length → b = P.length + A.length + B.length → N = (P ++ A ++ B ++ Q).length → N ≤ 1000 →
    Calls Tryz.prog 100 #[.slice (some ⟨R, 0, none⟩) N cap, .int .i64 a, .int .i64 m, .int .i64 b, .func (.func g) #[] cb] w fun e w' =>
      e = .returned (.tuple #[]) ∧ ∃ C', C'.Perm (A ++ B) ∧ C'.Pairwise le ∧ RowB w' R (P ++ C' ++ Q) ∧ w0.grownBy w' (some R)

theorem runs_at {A B : List Int} (P Q : List Int) {i j : Nat} {x y : Int} (hx : A[i]? = some x) (hy : B[j]? = some y) : (P ++ A ++ B ++ Q)[P.length + i]? = some x ∧ (P ++ A ++ B ++ Q)[P.length + A.length + j]? = some y := by
  have h1 := (List.getElem?_eq_some_iff.1 hx).1
  have h2 := (List.getElem?_eq_some_iff.1 hy).1
  constructor
  · rw [List.append_assoc, List.append_assoc, List.getElem?_append_right (by omega), show P.length + i - P.length = i by omega, List.getElem?_append_left h1]
    exact hx
  · rw [List.append_assoc, ← List.length_append, List.getElem?_append_right (by omega), show (P ++ A).length + j - (P ++ A).length = j by omega, List.getElem?_append_left h2]
    exact hy
/-- What the search knows of its lower end. -/
def Lft (le : Int → Int → Prop) (A B : List Int) (a m b n st : Nat) : Prop :=
  a ≤ st ∧ n ≤ b + st ∧ (st = a ∨ n = b + st ∨ ∃ x y, a < st ∧ A[st - 1 - a]? = some x ∧ B[n - st - m]? = some y ∧ le x y)
/-- .. and of its upper end. -/
def Rgt (le : Int → Int → Prop) (A B : List Int) (a m mid p r : Nat) : Prop :=
  r ≤ m ∧ r ≤ mid ∧ (r = m ∨ r = mid ∨ ∃ x y, a ≤ r ∧ A[r - a]? = some x ∧ B[p - r - m]? = some y ∧ ¬ le x y)
/-- Where the two runs are cut: s elements of the first are kept ahead, e of the second are led ahead. -/
def Cross (le : Int → Int → Prop) (A B : List Int) (s e : Nat) : Prop :=
  s ≤ A.length ∧ e ≤ B.length ∧ (∀ x ∈ A.take s, ∀ y ∈ B.drop e, le x y) ∧ ∀ y ∈ B.take e, ∀ x ∈ A.drop s, le y x

theorem cross_of {le : Int → Int → Prop} (T : TotLe le) {A B : List Int} (sA : A.Pairwise le) (sB : B.Pairwise le) {a m b n mid p st s e : Nat} (hl : Lft le A B a m b n st) (hr : Rgt le A B a m mid p st)
    (hm : m = a + A.length) (hb : b = m + B.length) (hn : n = mid + m) (hp : p = n - 1) (hs : s = st - a) (he : e = n - st - m) : Cross le A B s e := by
  obtain ⟨l1, l2, l3⟩ := hl
  obtain ⟨r1, r2, r3⟩ := hr
  refine ⟨by omega, by omega, fun x hx y hy => ?_, fun y hy x hx => ?_⟩
  · obtain ⟨i, hi⟩ := List.getElem?_of_mem hx
    obtain ⟨j, hj⟩ := List.getElem?_of_mem hy
    rw [List.getElem?_take] at hi
    rw [List.getElem?_drop] at hj
    split at hi
    · rename_i his
      have hjb := (List.getElem?_eq_some_iff.1 hj).1
      rcases l3 with h | h | ⟨x0, y0, h0, hx0, hy0, hle⟩
      · omega
      · omega
      · exact T.trans x x0 y (sorted_at T sA (by omega) hi hx0) (T.trans x0 y0 y hle (sorted_at T sB (by omega) hy0 hj))
    · simp at hi
  · obtain ⟨i, hi⟩ := List.getElem?_of_mem hx
    obtain ⟨j, hj⟩ := List.getElem?_of_mem hy
    rw [List.getElem?_take] at hj
    rw [List.getElem?_drop] at hi
    split at hj
    · rename_i hje
      have hia := (List.getElem?_eq_some_iff.1 hi).1
      rcases r3 with h | h | ⟨x0, y0, h0, hx0, hy0, hle⟩
      · omega
      · omega
      · have h1 := (T.total x0 y0).resolve_left hle
        exact T.trans y y0 x (sorted_at T sB (by omega) hj hy0) (T.trans y0 x0 x h1 (sorted_at T sA (by omega) hx0 hi))
    · simp at hj

set_option maxRecDepth 100000 in
set_option maxHeartbeats 8000000 in
theorem merge_step {g : Nat} {cb : Array Value} {cf : Int → Int → Int} {w0 : World} {R : Nat} {D : Int → Prop} (C : Cmp g cb cf w0 R D) {le : Int → Int → Prop} (T : TotLe le) (f : Nat) (IH : Merges g cb cf w0 R D le f)
    (P A B Q : List Int) (cap : Nat) (w : World) (hf : A.length + B.length ≤ f + 1) (hA2 : 2 ≤ A.length) (hB2 : 2 ≤ B.length) (hD : ∀ x ∈ A ++ B, D x) (hX : ∀ x ∈ A, ∀ y ∈ B, Agrees cf le x y) (sA : A.Pairwise le) (sB : B.Pairwise le)
    (hB : RowB w R (P ++ A ++ B ++ Q)) (hw : w0.grownBy w (some R)) (a m b N : Nat) (ha : a = P.length) (hm : m = P.length + A.length) (hb : b = P.length + A.length + B.length) (hN : N = (P ++ A ++ B ++ Q).length) (hl : N ≤ 1000) :
    Calls Tryz.prog 100 #[.slice (some ⟨R, 0, none⟩) N cap, .int .i64 a, .int .i64 m, .int .i64 b, .func (.func g) #[] cb] w fun e w' =>
      e = .returned (.tuple #[]) ∧ ∃ C', C'.Perm (A ++ B) ∧ C'.Pairwise le ∧ RowB w' R (P ++ C' ++ Q) ∧ w0.grownBy w' (some R) := by
  have eg := C.enters
  have HC := Lib.hid C
  have HT := Lib.hid T
  have HX := Lib.hid hX
  have HD := Lib.hid hD
  have HSA := Lib.hid sA
  have HSB := Lib.hid sB
  have HIH := Lib.hid IH
  clear C T hX hD sA sB IH
  have hlen := hN
  simp only [List.length_append] at hlen
  have HL := Lib.hid (show m = a + A.length ∧ a = P.length ∧ b = m + B.length ∧ N = a + A.length + B.length + Q.length by omega)
  have HF := Lib.hid hf
  have h2 := Lib.hid (And.intro hA2 hB2)
  clear hN ha hb hm hlen hf hA2 hB2
  obtain ⟨k1, hk1⟩ : ∃ k1, k1 = m - a := ⟨_, rfl⟩
  obtain ⟨k2, hk2⟩ : ∃ k2, k2 = b - m := ⟨_, rfl⟩
  have q1 : (m : Int) - (a : Int) = (k1 : Int) := by have := HL.out; omega
  have q2 : (b : Int) - (m : Int) = (k2 : Int) := by have := HL.out; omega
  have b1 : ((k1 : Int) == 1) = false := by have := HL.out; have := h2.out; simp; omega
  have b2 : ((k2 : Int) == 1) = false := by have := HL.out; have := h2.out; simp; omega
  clear hk1 hk2
  obtain ⟨mid, hmid⟩ : ∃ mid, mid = (a + b) / 2 := ⟨_, rfl⟩
  obtain ⟨n, hn⟩ : ∃ n, n = mid + m := ⟨_, rfl⟩
  obtain ⟨p, hp⟩ : ∃ p, p = n - 1 := ⟨_, rfl⟩
  have hbd : a ≤ 1000 ∧ b ≤ 1000 ∧ m ≤ 1000 ∧ mid ≤ 1000 ∧ n ≤ 2000 ∧ p ≤ 2000 := by have := HL.out; have := h2.out; omega
  obtain ⟨ba, bb, bm, bmid, bn, bp⟩ := hbd
  have q3 : ((a : Int) + (b : Int)) / 2 = (mid : Int) := by omega
  have q4 : (mid : Int) + (m : Int) = (n : Int) := by omega
  have q5 : (n : Int) - 1 = (p : Int) := by have := HL.out; have := h2.out; omega
  have HM := Lib.hid hmid
  have HN := Lib.hid hn
  have HP := Lib.hid hp
  clear hmid hn hp
  go_enter Tryz.func100, Tryz.ntmps100
  by_cases hgt : mid < m
  · have hbt : decide ((m : Int) > (mid : Int)) = true := by simp; omega
    have hbt2 : (mid : Int) < (m : Int) := by omega
    obtain ⟨st, hst⟩ : ∃ st, st = n - b := ⟨_, rfl⟩
    have q6 : (n : Int) - (b : Int) = (st : Int) := by have := HM.out; have := HN.out; have := HL.out; omega
    have HST := Lib.hid hst
    clear hst
    go_wp2_with fail
    go_loopw [20, 21] (fun u t wr => ∃ (x y : Nat), u = .int .i64 x ∧ t = .int .i64 y ∧ x ≤ y ∧ Hid (Lft le A B a m b n x ∧ Rgt le A B a m mid p y) ∧ RowB wr R (P ++ A ++ B ++ Q) ∧ w0.grownBy wr (some R)) (fun u t _ => (intOf t).toNat - (intOf u).toNat)
    case atStart => exact ⟨st, mid, rfl, rfl, by have := HST.out; have := HM.out; have := HN.out; have := HL.out; omega, ⟨⟨by have := HST.out; have := HM.out; have := HN.out; have := HL.out; omega, by have := HST.out; have := HN.out; have := HL.out; omega, .inr (.inl (by have := HST.out; have := HM.out; have := HN.out; have := HL.out; omega))⟩, ⟨by omega, Nat.le_refl _, .inr (.inl rfl)⟩⟩, hB, hw⟩
    case round =>
      clear hB hw
      obtain ⟨st, r, rfl, rfl, hsr, hLR, hB, hw⟩ := hrel
      by_cases hlt : st < r
      · have hbs : decide ((st : Int) < (r : Int)) = true := by simp; omega
        have hbs2 : (st : Int) < (r : Int) := by omega
        obtain ⟨c, hc⟩ : ∃ c, c = (st + r) / 2 := ⟨_, rfl⟩
        have q7 : ((st : Int) + (r : Int)) / 2 = (c : Int) := by omega
        obtain ⟨d, hd⟩ : ∃ d, d = p - c := ⟨_, rfl⟩
        have hin : a ≤ c ∧ c < m ∧ m ≤ d ∧ d < b ∧ st ≤ c ∧ c < r ∧ d = p - c ∧ c ≤ p := by
          have h1 := hLR.out.1.1
          have h3 := hLR.out.1.2.1
          have h2 := hLR.out.2.1
          have h4 := hLR.out.2.2.1
          have := HM.out; have := HN.out; have := HP.out; have := HL.out
          omega
        have q8 : (p : Int) - (c : Int) = (d : Int) := by omega
        obtain ⟨x, hx⟩ : ∃ x, A[c - a]? = some x := ⟨_, List.getElem?_eq_getElem (by have := HL.out; omega)⟩
        obtain ⟨y, hy⟩ : ∃ y, B[d - m]? = some y := ⟨_, List.getElem?_eq_getElem (by have := HL.out; omega)⟩
        have cx : wr.cell? ⟨R, c, none⟩ = some (.int .i64 x) := hB.at_ (by
          have e : c = P.length + (c - a) := by have := HL.out; omega
          rw [e]; exact (runs_at P Q hx hy).1)
        have cy : wr.cell? ⟨R, d, none⟩ = some (.int .i64 y) := hB.at_ (by
          have e : d = P.length + A.length + (d - m) := by have := HL.out; omega
          rw [e]; exact (runs_at P Q hx hy).2)
        have lR := hB.lt
        have hcN : c < N ∧ d < N := by have := HL.out; omega
        obtain ⟨hcN, hdN⟩ := hcN
        have hxA : x ∈ A := List.mem_of_getElem? hx
        have hyB : y ∈ B := List.mem_of_getElem? hy
        have hag := Lib.hid (HX.out x hxA y hyB)
        have M : Hid (∀ z : Later wr, Hid (Calls Tryz.prog g (#[.int .i64 y, .int .i64 x] ++ cb) z.val fun e w' => e = .returned (.int .i64 (cf y x)) ∧ ∃ z2 : Later wr, w' = z2.val)) := fun z => later_call (HC.out.tells z.val (only_trans_below hw z.property) y x (HD.out y (by simp [hyB])) (HD.out x (by simp [hxA])))
        have hxl := later_cell (w := wr)
        have HXx := Lib.hid hx
        have HYy := Lib.hid hy
        have HIN := Lib.hid hin
        have hcb : c ≤ 1000 := by omega
        have HCc := Lib.hid (show c = (st + r) / 2 ∧ st < r from ⟨hc, hlt⟩)
        clear hx hy hxA hyB hc hd hin
        by_cases hlv : cf y x < 0
        · have hb6 : decide (cf y x < 0) = true := by simpa using hlv
          have NL := Lib.hid (hag.out.1 hlv)
          go_wp2_with fail
          refine wp_region_later (by kernel_rfl) (by kernel_rfl) ?_
          repeat (go_big_quiet_step ((first | (go_at_fn g; exact (M.out _).out))))
          refine wpQuiet_nil ?_
          rintro w2 ⟨⟨_, hb2⟩, rfl⟩
          have hB2 := hB.later hb2
          go_wp2_with fail
          go_roundw
          case rel =>
            have hin := HIN.out
            refine ⟨st, c, rfl, rfl, hin.2.2.2.2.1, ⟨hLR.out.1, ⟨by omega, by have := hLR.out.2.2.1; omega, .inr (.inr ⟨x, y, by omega, HXx.out, ?_, NL.out⟩)⟩⟩, hB2, only_trans_below hw hb2⟩
            rw [← hin.2.2.2.2.2.2.1]
            exact HYy.out
          case measure => have := HCc.out; simp [intOf]; omega
        
        · have hb6 : decide (cf y x < 0) = false := by simpa using hlv
          have NL : Hid (le x y) := by
            by_cases h : le x y
            · exact h
            · exact absurd (hag.out.2 h) hlv
          go_wp2_with fail
          refine wp_region_later (by kernel_rfl) (by kernel_rfl) ?_
          repeat (go_big_quiet_step ((first | (go_at_fn g; exact (M.out _).out))))
          refine wpQuiet_nil ?_
          rintro w2 ⟨⟨_, hb2⟩, rfl⟩
          have hB2 := hB.later hb2
          go_wp2_with fail
          go_roundw
          case rel =>
            have hin := HIN.out
            refine ⟨c + 1, r, by go_num, rfl, by omega, ⟨⟨by omega, by have := hLR.out.1.2.1; omega, .inr (.inr ⟨x, y, by omega, by rw [show c + 1 - 1 - a = c - a by omega]; exact HXx.out, ?_, NL.out⟩)⟩, hLR.out.2⟩, hB2, only_trans_below hw hb2⟩
            have := HP.out
            have := HN.out
            rw [show n - (c + 1) - m = d - m by omega]
            exact HYy.out
          case measure => have := HCc.out; simp [intOf]; omega
      · obtain rfl : st = r := by omega
        have hbs : decide ((st : Int) < (st : Int)) = false := by simp
        obtain ⟨s, hs⟩ : ∃ s, s = st - a := ⟨_, rfl⟩
        obtain ⟨e, he⟩ : ∃ e, e = n - st - m := ⟨_, rfl⟩
        have hX2 : Cross le A B s e := cross_of HT.out HSA.out HSB.out hLR.out.1 hLR.out.2 HL.out.1 HL.out.2.2.1 HN.out HP.out hs he
        have hgeo : st = a + s ∧ n - st = m + e ∧ mid = a + s + e ∧ s ≤ A.length ∧ e ≤ B.length ∧ st ≤ n := by
          have h1 := hLR.out.1.1
          have h2 := hLR.out.1.2.1
          have h3 := hLR.out.2.2.1
          have := HM.out; have := HN.out; have := HL.out
          exact ⟨by omega, by omega, by omega, hX2.1, hX2.2.1, by omega⟩
        obtain ⟨en, hen⟩ : ∃ en, en = n - st := ⟨_, rfl⟩
        have q7 : (n : Int) - (st : Int) = (en : Int) := by omega
        have hmb : a < mid ∧ mid < b := by have := HM.out; have := HL.out; have := h2.out; omega
        have eA : A = A.take s ++ A.drop s := (List.take_append_drop s A).symm
        have eB : B = B.take e ++ B.drop e := (List.take_append_drop e B).symm
        have l1 : (A.take s).length = s := by rw [List.length_take]; omega
        have l2 : (B.take e).length = e := by rw [List.length_take]; omega
        have HX2 := Lib.hid (And.intro hX2.2.2.1 hX2.2.2.2)
        clear hX2 hLR hs he hlt
        generalize A.take s = A1 at *
        generalize A.drop s = A2 at *
        generalize B.take e = B1 at *
        generalize B.drop e = B2 at *
        subst eA eB
        have HG := Lib.hid (show st = a + A1.length ∧ en = m + B1.length ∧ mid = a + A1.length + B1.length ∧ m = a + A1.length + A2.length ∧ b = m + B1.length + B2.length by have := HL.out; simp only [List.length_append] at this; omega)
        have hb9 : en ≤ 2000 ∧ st ≤ 1000 := by have := HG.out; omega
        obtain ⟨hb9, hb10⟩ := hb9
        have hmb' := Lib.hid hmb
        clear hgeo hen l1 l2 hmb
        rcases Nat.eq_zero_or_pos A1.length with a1 | a1 <;> rcases Nat.eq_zero_or_pos A2.length with a2 | a2 <;> rcases Nat.eq_zero_or_pos B1.length with b1 | b1 <;> rcases Nat.eq_zero_or_pos B2.length with b2 | b2
        · exfalso; have := hmb'.out; have := HG.out; have := h2.out; simp only [List.length_append] at this; have := HM.out; omega
        · exfalso; have := hmb'.out; have := HG.out; have := h2.out; simp only [List.length_append] at this; have := HM.out; omega
        · exfalso; have := hmb'.out; have := HG.out; have := h2.out; simp only [List.length_append] at this; have := HM.out; omega
        · exfalso; have := hmb'.out; have := HG.out; have := h2.out; simp only [List.length_append] at this; have := HM.out; omega
        · exfalso; have := hmb'.out; have := HG.out; have := h2.out; simp only [List.length_append] at this; have := HM.out; omega
        · exfalso; have := hmb'.out; have := HG.out; have := h2.out; simp only [List.length_append] at this; have := HM.out; omega
        · skip
          have f1 : decide ((st : Int) < (m : Int)) = true := by have := HG.out; simp; omega
          have f1i : (st : Int) < (m : Int) := by have := HG.out; omega
          have f2 : decide ((m : Int) < (en : Int)) = true := by have := HG.out; simp; omega
          have f2i : (m : Int) < (en : Int) := by have := HG.out; omega
          have f3 : decide ((a : Int) < (st : Int)) = false := by have := HG.out; simp; omega
          have f3i : ¬ (a : Int) < (st : Int) := by have := HG.out; omega
          have f5 : decide ((mid : Int) < (en : Int)) = true := by have := HG.out; simp; omega
          have f5i : (mid : Int) < (en : Int) := by have := HG.out; omega
          have f6 : decide ((en : Int) < (b : Int)) = false := by have := HG.out; simp; omega
          have f6i : ¬ (en : Int) < (b : Int) := by have := HG.out; omega
          have M1 := Lib.hid (rotate_any (w0 := w0) (P ++ A1) A2 B1 (B2 ++ Q) cap (.func (.func g) #[] cb) wr (by simpa using hB) hw st m en N (by rw [List.length_append]; have := HG.out; have := HL.out; omega) (by rw [List.length_append]; have := HG.out; have := HL.out; omega) (by rw [List.length_append]; have := HG.out; have := HL.out; omega)
            (by simp only [List.length_append]; have := HL.out; simp only [List.length_append] at this; omega) hl a2 b1)
          go_wp2_with fail
          refine M1.out.mono ?_
          rintro e w3 ⟨rfl, hB3, hw3⟩
          have hB4 : RowB w3 R (P ++ A1 ++ B1 ++ (A2 ++ B2 ++ Q)) := by simpa using hB3
          clear hB hw hB3 M1
          have e1 : A1 = [] := List.eq_nil_of_length_eq_zero a1
          obtain ⟨C1, hC1⟩ : ∃ C1, C1 = A1 ++ B1 := ⟨_, rfl⟩
          have HP1 : Hid (C1.Perm (A1 ++ B1)) := by show C1.Perm _; rw [hC1]
          have HS1 : Hid (C1.Pairwise le) := by show C1.Pairwise le; rw [hC1, e1]; exact (List.pairwise_append.1 HSB.out).1
          have hB5 : RowB w3 R (P ++ C1 ++ (A2 ++ B2 ++ Q)) := by rw [hC1]; simpa using hB4
          clear e1 hB4 hC1
          have e2 : B2 = [] := List.eq_nil_of_length_eq_zero b2
          obtain ⟨C2, hC2⟩ : ∃ C2, C2 = A2 ++ B2 := ⟨_, rfl⟩
          have HP2 : Hid (C2.Perm (A2 ++ B2)) := by show C2.Perm _; rw [hC2]
          have HS2 : Hid (C2.Pairwise le) := by show C2.Pairwise le; rw [hC2, e2]; rw [List.append_nil]; exact (List.pairwise_append.1 HSA.out).2.1
          have hB7 : RowB w3 R (P ++ (C1 ++ C2) ++ Q) := by rw [hC2]; simpa using hB5
          clear e2 hB5 hC2
          go_wp2_with fail
          go_end0
          have hmc := merge_cut HSA.out HSB.out HX2.out.1 HX2.out.2 HP1.out HP2.out HS1.out HS2.out
          exact ⟨rfl, C1 ++ C2, by simpa using hmc.2, hmc.1, by simpa using hB7, hw3⟩
        · exfalso; have := hmb'.out; have := HG.out; have := h2.out; simp only [List.length_append] at this; have := HM.out; omega
        · exfalso; have := hmb'.out; have := HG.out; have := h2.out; simp only [List.length_append] at this; have := HM.out; omega
        · exfalso; have := hmb'.out; have := HG.out; have := h2.out; simp only [List.length_append] at this; have := HM.out; omega
        · exfalso; have := hmb'.out; have := HG.out; have := h2.out; simp only [List.length_append] at this; have := HM.out; omega
        · exfalso; have := hmb'.out; have := HG.out; have := h2.out; simp only [List.length_append] at this; have := HM.out; omega
        · exfalso; have := hmb'.out; have := HG.out; have := h2.out; simp only [List.length_append] at this; have := HM.out; omega
        · skip
          have f1 : decide ((st : Int) < (m : Int)) = true := by have := HG.out; simp; omega
          have f1i : (st : Int) < (m : Int) := by have := HG.out; omega
          have f2 : decide ((m : Int) < (en : Int)) = false := by have := HG.out; simp; omega
          have f2i : ¬ (m : Int) < (en : Int) := by have := HG.out; omega
          have f3 : decide ((a : Int) < (st : Int)) = true := by have := HG.out; simp; omega
          have f3i : (a : Int) < (st : Int) := by have := HG.out; omega
          have f4 : decide ((st : Int) < (mid : Int)) = false := by have := HG.out; simp; omega
          have f4i : ¬ (st : Int) < (mid : Int) := by have := HG.out; omega
          have f5 : decide ((mid : Int) < (en : Int)) = true := by have := HG.out; simp; omega
          have f5i : (mid : Int) < (en : Int) := by have := HG.out; omega
          have f6 : decide ((en : Int) < (b : Int)) = true := by have := HG.out; simp; omega
          have f6i : (en : Int) < (b : Int) := by have := HG.out; omega
          have e0 : B1 = [] := List.eq_nil_of_length_eq_zero b1
          have hB4 : RowB wr R (P ++ A1 ++ B1 ++ (A2 ++ B2 ++ Q)) := by rw [e0] at hB ⊢; simpa using hB
          clear hB e0
          have e1 : B1 = [] := List.eq_nil_of_length_eq_zero b1
          obtain ⟨C1, hC1⟩ : ∃ C1, C1 = A1 ++ B1 := ⟨_, rfl⟩
          have HP1 : Hid (C1.Perm (A1 ++ B1)) := by show C1.Perm _; rw [hC1]
          have HS1 : Hid (C1.Pairwise le) := by show C1.Pairwise le; rw [hC1, e1]; rw [List.append_nil]; exact (List.pairwise_append.1 HSA.out).1
          have hB5 : RowB wr R (P ++ C1 ++ (A2 ++ B2 ++ Q)) := by rw [hC1]; simpa using hB4
          clear e1 hB4 hC1
          have lC : C1.length = A1.length + B1.length := by rw [HP1.out.length_eq, List.length_append]
          have LC := Lib.hid lC
          clear lC
          have M3 := Lib.hid (HIH.out (P ++ C1) A2 B2 Q cap wr (by have := HF.out; simp only [List.length_append] at this; omega) a2 b2 (fun x hx => HD.out x (by rcases List.mem_append.1 hx with h | h <;> simp [h])) (fun x hx y hy => HX.out x (by simp [hx]) y (by simp [hy])) (List.pairwise_append.1 HSA.out).2.1 (List.pairwise_append.1 HSB.out).2.1 (by simpa using hB5) hw mid en b N (by rw [List.length_append]; have := LC.out; have := HG.out; have := HL.out; omega) (by rw [List.length_append]; have := LC.out; have := HG.out; have := HL.out; omega) (by rw [List.length_append]; have := LC.out; have := HG.out; have := HL.out; omega)
            (by simp only [List.length_append]; have := LC.out; have := HL.out; simp only [List.length_append] at this; omega) hl)
          go_wp2_with fail
          refine M3.out.mono ?_
          rintro e w5 ⟨rfl, C2, hP2, hS2, hB6, hw5⟩
          have HP2 := Lib.hid hP2
          have HS2 := Lib.hid hS2
          have hB7 : RowB w5 R (P ++ (C1 ++ C2) ++ Q) := by simpa using hB6
          clear hB5 hw M3 hP2 hS2 hB6
          go_wp2_with fail
          go_end0
          have hmc := merge_cut HSA.out HSB.out HX2.out.1 HX2.out.2 HP1.out HP2.out HS1.out HS2.out
          exact ⟨rfl, C1 ++ C2, by simpa using hmc.2, hmc.1, by simpa using hB7, hw5⟩
        · skip
          have f1 : decide ((st : Int) < (m : Int)) = true := by have := HG.out; simp; omega
          have f1i : (st : Int) < (m : Int) := by have := HG.out; omega
          have f2 : decide ((m : Int) < (en : Int)) = true := by have := HG.out; simp; omega
          have f2i : (m : Int) < (en : Int) := by have := HG.out; omega
          have f3 : decide ((a : Int) < (st : Int)) = true := by have := HG.out; simp; omega
          have f3i : (a : Int) < (st : Int) := by have := HG.out; omega
          have f4 : decide ((st : Int) < (mid : Int)) = true := by have := HG.out; simp; omega
          have f4i : (st : Int) < (mid : Int) := by have := HG.out; omega
          have f5 : decide ((mid : Int) < (en : Int)) = true := by have := HG.out; simp; omega
          have f5i : (mid : Int) < (en : Int) := by have := HG.out; omega
          have f6 : decide ((en : Int) < (b : Int)) = false := by have := HG.out; simp; omega
          have f6i : ¬ (en : Int) < (b : Int) := by have := HG.out; omega
          have M1 := Lib.hid (rotate_any (w0 := w0) (P ++ A1) A2 B1 (B2 ++ Q) cap (.func (.func g) #[] cb) wr (by simpa using hB) hw st m en N (by rw [List.length_append]; have := HG.out; have := HL.out; omega) (by rw [List.length_append]; have := HG.out; have := HL.out; omega) (by rw [List.length_append]; have := HG.out; have := HL.out; omega)
            (by simp only [List.length_append]; have := HL.out; simp only [List.length_append] at this; omega) hl a2 b1)
          go_wp2_with fail
          refine M1.out.mono ?_
          rintro e w3 ⟨rfl, hB3, hw3⟩
          have hB4 : RowB w3 R (P ++ A1 ++ B1 ++ (A2 ++ B2 ++ Q)) := by simpa using hB3
          clear hB hw hB3 M1
          have M2 := Lib.hid (HIH.out P A1 B1 (A2 ++ B2 ++ Q) cap w3 (by have := HF.out; simp only [List.length_append] at this; omega) a1 b1 (fun x hx => HD.out x (by rcases List.mem_append.1 hx with h | h <;> simp [h])) (fun x hx y hy => HX.out x (by simp [hx]) y (by simp [hy])) (List.pairwise_append.1 HSA.out).1 (List.pairwise_append.1 HSB.out).1 hB4 hw3 a st mid N HL.out.2.1 (by have := HG.out; have := HL.out; omega) (by have := HG.out; have := HL.out; omega)
            (by simp only [List.length_append]; have := HL.out; simp only [List.length_append] at this; omega) hl)
          go_wp2_with fail
          refine M2.out.mono ?_
          rintro e w4 ⟨rfl, C1, hP1, hS1, hB5, hw4⟩
          have HP1 := Lib.hid hP1
          have HS1 := Lib.hid hS1
          clear hB4 hw3 M2 hP1 hS1
          have e2 : B2 = [] := List.eq_nil_of_length_eq_zero b2
          obtain ⟨C2, hC2⟩ : ∃ C2, C2 = A2 ++ B2 := ⟨_, rfl⟩
          have HP2 : Hid (C2.Perm (A2 ++ B2)) := by show C2.Perm _; rw [hC2]
          have HS2 : Hid (C2.Pairwise le) := by show C2.Pairwise le; rw [hC2, e2]; rw [List.append_nil]; exact (List.pairwise_append.1 HSA.out).2.1
          have hB7 : RowB w4 R (P ++ (C1 ++ C2) ++ Q) := by rw [hC2]; simpa using hB5
          clear e2 hB5 hC2
          go_wp2_with fail
          go_end0
          have hmc := merge_cut HSA.out HSB.out HX2.out.1 HX2.out.2 HP1.out HP2.out HS1.out HS2.out
          exact ⟨rfl, C1 ++ C2, by simpa using hmc.2, hmc.1, by simpa using hB7, hw4⟩
        · skip
          have f1 : decide ((st : Int) < (m : Int)) = true := by have := HG.out; simp; omega
          have f1i : (st : Int) < (m : Int) := by have := HG.out; omega
          have f2 : decide ((m : Int) < (en : Int)) = true := by have := HG.out; simp; omega
          have f2i : (m : Int) < (en : Int) := by have := HG.out; omega
          have f3 : decide ((a : Int) < (st : Int)) = true := by have := HG.out; simp; omega
          have f3i : (a : Int) < (st : Int) := by have := HG.out; omega
          have f4 : decide ((st : Int) < (mid : Int)) = true := by have := HG.out; simp; omega
          have f4i : (st : Int) < (mid : Int) := by have := HG.out; omega
          have f5 : decide ((mid : Int) < (en : Int)) = true := by have := HG.out; simp; omega
          have f5i : (mid : Int) < (en : Int) := by have := HG.out; omega
          have f6 : decide ((en : Int) < (b : Int)) = true := by have := HG.out; simp; omega
          have f6i : (en : Int) < (b : Int) := by have := HG.out; omega
          have M1 := Lib.hid (rotate_any (w0 := w0) (P ++ A1) A2 B1 (B2 ++ Q) cap (.func (.func g) #[] cb) wr (by simpa using hB) hw st m en N (by rw [List.length_append]; have := HG.out; have := HL.out; omega) (by rw [List.length_append]; have := HG.out; have := HL.out; omega) (by rw [List.length_append]; have := HG.out; have := HL.out; omega)
            (by simp only [List.length_append]; have := HL.out; simp only [List.length_append] at this; omega) hl a2 b1)
          go_wp2_with fail
          refine M1.out.mono ?_
          rintro e w3 ⟨rfl, hB3, hw3⟩
          have hB4 : RowB w3 R (P ++ A1 ++ B1 ++ (A2 ++ B2 ++ Q)) := by simpa using hB3
          clear hB hw hB3 M1
          have M2 := Lib.hid (HIH.out P A1 B1 (A2 ++ B2 ++ Q) cap w3 (by have := HF.out; simp only [List.length_append] at this; omega) a1 b1 (fun x hx => HD.out x (by rcases List.mem_append.1 hx with h | h <;> simp [h])) (fun x hx y hy => HX.out x (by simp [hx]) y (by simp [hy])) (List.pairwise_append.1 HSA.out).1 (List.pairwise_append.1 HSB.out).1 hB4 hw3 a st mid N HL.out.2.1 (by have := HG.out; have := HL.out; omega) (by have := HG.out; have := HL.out; omega)
            (by simp only [List.length_append]; have := HL.out; simp only [List.length_append] at this; omega) hl)
          go_wp2_with fail
          refine M2.out.mono ?_
          rintro e w4 ⟨rfl, C1, hP1, hS1, hB5, hw4⟩
          have HP1 := Lib.hid hP1
          have HS1 := Lib.hid hS1
          clear hB4 hw3 M2 hP1 hS1
          have lC : C1.length = A1.length + B1.length := by rw [HP1.out.length_eq, List.length_append]
          have LC := Lib.hid lC
          clear lC
          have M3 := Lib.hid (HIH.out (P ++ C1) A2 B2 Q cap w4 (by have := HF.out; simp only [List.length_append] at this; omega) a2 b2 (fun x hx => HD.out x (by rcases List.mem_append.1 hx with h | h <;> simp [h])) (fun x hx y hy => HX.out x (by simp [hx]) y (by simp [hy])) (List.pairwise_append.1 HSA.out).2.1 (List.pairwise_append.1 HSB.out).2.1 (by simpa using hB5) hw4 mid en b N (by rw [List.length_append]; have := LC.out; have := HG.out; have := HL.out; omega) (by rw [List.length_append]; have := LC.out; have := HG.out; have := HL.out; omega) (by rw [List.length_append]; have := LC.out; have := HG.out; have := HL.out; omega)
            (by simp only [List.length_append]; have := LC.out; have := HL.out; simp only [List.length_append] at this; omega) hl)
          go_wp2_with fail
          refine M3.out.mono ?_
          rintro e w5 ⟨rfl, C2, hP2, hS2, hB6, hw5⟩
          have HP2 := Lib.hid hP2
          have HS2 := Lib.hid hS2
          have hB7 : RowB w5 R (P ++ (C1 ++ C2) ++ Q) := by simpa using hB6
          clear hB5 hw4 M3 hP2 hS2 hB6
          go_wp2_with fail
          go_end0
          have hmc := merge_cut HSA.out HSB.out HX2.out.1 HX2.out.2 HP1.out HP2.out HS1.out HS2.out
          exact ⟨rfl, C1 ++ C2, by simpa using hmc.2, hmc.1, by simpa using hB7, hw5⟩
  · have hbt : decide ((m : Int) > (mid : Int)) = false := by simp; omega
    have hbt2 : ¬ (mid : Int) < (m : Int) := by omega
    go_wp2_with fail
    go_loopw [20, 21] (fun u t wr => ∃ (x y : Nat), u = .int .i64 x ∧ t = .int .i64 y ∧ x ≤ y ∧ Hid (Lft le A B a m b n x ∧ Rgt le A B a m mid p y) ∧ RowB wr R (P ++ A ++ B ++ Q) ∧ w0.grownBy wr (some R)) (fun u t _ => (intOf t).toNat - (intOf u).toNat)
    case atStart => exact ⟨a, m, rfl, rfl, by have := HL.out; omega, ⟨⟨Nat.le_refl _, by have := HM.out; have := HN.out; have := HL.out; omega, .inl rfl⟩, ⟨Nat.le_refl _, by omega, .inl rfl⟩⟩, hB, hw⟩
    case round =>
      clear hB hw
      obtain ⟨st, r, rfl, rfl, hsr, hLR, hB, hw⟩ := hrel
      by_cases hlt : st < r
      · have hbs : decide ((st : Int) < (r : Int)) = true := by simp; omega
        have hbs2 : (st : Int) < (r : Int) := by omega
        obtain ⟨c, hc⟩ : ∃ c, c = (st + r) / 2 := ⟨_, rfl⟩
        have q7 : ((st : Int) + (r : Int)) / 2 = (c : Int) := by omega
        obtain ⟨d, hd⟩ : ∃ d, d = p - c := ⟨_, rfl⟩
        have hin : a ≤ c ∧ c < m ∧ m ≤ d ∧ d < b ∧ st ≤ c ∧ c < r ∧ d = p - c ∧ c ≤ p := by
          have h1 := hLR.out.1.1
          have h3 := hLR.out.1.2.1
          have h2 := hLR.out.2.1
          have h4 := hLR.out.2.2.1
          have := HM.out; have := HN.out; have := HP.out; have := HL.out
          omega
        have q8 : (p : Int) - (c : Int) = (d : Int) := by omega
        obtain ⟨x, hx⟩ : ∃ x, A[c - a]? = some x := ⟨_, List.getElem?_eq_getElem (by have := HL.out; omega)⟩
        obtain ⟨y, hy⟩ : ∃ y, B[d - m]? = some y := ⟨_, List.getElem?_eq_getElem (by have := HL.out; omega)⟩
        have cx : wr.cell? ⟨R, c, none⟩ = some (.int .i64 x) := hB.at_ (by
          have e : c = P.length + (c - a) := by have := HL.out; omega
          rw [e]; exact (runs_at P Q hx hy).1)
        have cy : wr.cell? ⟨R, d, none⟩ = some (.int .i64 y) := hB.at_ (by
          have e : d = P.length + A.length + (d - m) := by have := HL.out; omega
          rw [e]; exact (runs_at P Q hx hy).2)
        have lR := hB.lt
        have hcN : c < N ∧ d < N := by have := HL.out; omega
        obtain ⟨hcN, hdN⟩ := hcN
        have hxA : x ∈ A := List.mem_of_getElem? hx
        have hyB : y ∈ B := List.mem_of_getElem? hy
        have hag := Lib.hid (HX.out x hxA y hyB)
        have M : Hid (∀ z : Later wr, Hid (Calls Tryz.prog g (#[.int .i64 y, .int .i64 x] ++ cb) z.val fun e w' => e = .returned (.int .i64 (cf y x)) ∧ ∃ z2 : Later wr, w' = z2.val)) := fun z => later_call (HC.out.tells z.val (only_trans_below hw z.property) y x (HD.out y (by simp [hyB])) (HD.out x (by simp [hxA])))
        have hxl := later_cell (w := wr)
        have HXx := Lib.hid hx
        have HYy := Lib.hid hy
        have HIN := Lib.hid hin
        have hcb : c ≤ 1000 := by omega
        have HCc := Lib.hid (show c = (st + r) / 2 ∧ st < r from ⟨hc, hlt⟩)
        clear hx hy hxA hyB hc hd hin
        by_cases hlv : cf y x < 0
        · have hb6 : decide (cf y x < 0) = true := by simpa using hlv
          have NL := Lib.hid (hag.out.1 hlv)
          go_wp2_with fail
          refine wp_region_later (by kernel_rfl) (by kernel_rfl) ?_
          repeat (go_big_quiet_step ((first | (go_at_fn g; exact (M.out _).out))))
          refine wpQuiet_nil ?_
          rintro w2 ⟨⟨_, hb2⟩, rfl⟩
          have hB2 := hB.later hb2
          go_wp2_with fail
          go_roundw
          case rel =>
            have hin := HIN.out
            refine ⟨st, c, rfl, rfl, hin.2.2.2.2.1, ⟨hLR.out.1, ⟨by omega, by have := hLR.out.2.2.1; omega, .inr (.inr ⟨x, y, by omega, HXx.out, ?_, NL.out⟩)⟩⟩, hB2, only_trans_below hw hb2⟩
            rw [← hin.2.2.2.2.2.2.1]
            exact HYy.out
          case measure => have := HCc.out; simp [intOf]; omega
        
        · have hb6 : decide (cf y x < 0) = false := by simpa using hlv
          have NL : Hid (le x y) := by
            by_cases h : le x y
            · exact h
            · exact absurd (hag.out.2 h) hlv
          go_wp2_with fail
          refine wp_region_later (by kernel_rfl) (by kernel_rfl) ?_
          repeat (go_big_quiet_step ((first | (go_at_fn g; exact (M.out _).out))))
          refine wpQuiet_nil ?_
          rintro w2 ⟨⟨_, hb2⟩, rfl⟩
          have hB2 := hB.later hb2
          go_wp2_with fail
          go_roundw
          case rel =>
            have hin := HIN.out
            refine ⟨c + 1, r, by go_num, rfl, by omega, ⟨⟨by omega, by have := hLR.out.1.2.1; omega, .inr (.inr ⟨x, y, by omega, by rw [show c + 1 - 1 - a = c - a by omega]; exact HXx.out, ?_, NL.out⟩)⟩, hLR.out.2⟩, hB2, only_trans_below hw hb2⟩
            have := HP.out
            have := HN.out
            rw [show n - (c + 1) - m = d - m by omega]
            exact HYy.out
          case measure => have := HCc.out; simp [intOf]; omega
      · obtain rfl : st = r := by omega
        have hbs : decide ((st : Int) < (st : Int)) = false := by simp
        obtain ⟨s, hs⟩ : ∃ s, s = st - a := ⟨_, rfl⟩
        obtain ⟨e, he⟩ : ∃ e, e = n - st - m := ⟨_, rfl⟩
        have hX2 : Cross le A B s e := cross_of HT.out HSA.out HSB.out hLR.out.1 hLR.out.2 HL.out.1 HL.out.2.2.1 HN.out HP.out hs he
        have hgeo : st = a + s ∧ n - st = m + e ∧ mid = a + s + e ∧ s ≤ A.length ∧ e ≤ B.length ∧ st ≤ n := by
          have h1 := hLR.out.1.1
          have h2 := hLR.out.1.2.1
          have h3 := hLR.out.2.2.1
          have := HM.out; have := HN.out; have := HL.out
          exact ⟨by omega, by omega, by omega, hX2.1, hX2.2.1, by omega⟩
        obtain ⟨en, hen⟩ : ∃ en, en = n - st := ⟨_, rfl⟩
        have q7 : (n : Int) - (st : Int) = (en : Int) := by omega
        have hmb : a < mid ∧ mid < b := by have := HM.out; have := HL.out; have := h2.out; omega
        have eA : A = A.take s ++ A.drop s := (List.take_append_drop s A).symm
        have eB : B = B.take e ++ B.drop e := (List.take_append_drop e B).symm
        have l1 : (A.take s).length = s := by rw [List.length_take]; omega
        have l2 : (B.take e).length = e := by rw [List.length_take]; omega
        have HX2 := Lib.hid (And.intro hX2.2.2.1 hX2.2.2.2)
        clear hX2 hLR hs he hlt
        generalize A.take s = A1 at *
        generalize A.drop s = A2 at *
        generalize B.take e = B1 at *
        generalize B.drop e = B2 at *
        subst eA eB
        have HG := Lib.hid (show st = a + A1.length ∧ en = m + B1.length ∧ mid = a + A1.length + B1.length ∧ m = a + A1.length + A2.length ∧ b = m + B1.length + B2.length by have := HL.out; simp only [List.length_append] at this; omega)
        have hb9 : en ≤ 2000 ∧ st ≤ 1000 := by have := HG.out; omega
        obtain ⟨hb9, hb10⟩ := hb9
        have hmb' := Lib.hid hmb
        clear hgeo hen l1 l2 hmb
        rcases Nat.eq_zero_or_pos A1.length with a1 | a1 <;> rcases Nat.eq_zero_or_pos A2.length with a2 | a2 <;> rcases Nat.eq_zero_or_pos B1.length with b1 | b1 <;> rcases Nat.eq_zero_or_pos B2.length with b2 | b2
        · exfalso; have := hmb'.out; have := HG.out; have := h2.out; simp only [List.length_append] at this; have := HM.out; omega
        · exfalso; have := hmb'.out; have := HG.out; have := h2.out; simp only [List.length_append] at this; have := HM.out; omega
        · exfalso; have := hmb'.out; have := HG.out; have := h2.out; simp only [List.length_append] at this; have := HM.out; omega
        · exfalso; have := hmb'.out; have := HG.out; have := h2.out; simp only [List.length_append] at this; have := HM.out; omega
        · exfalso; have := hmb'.out; have := HG.out; have := h2.out; simp only [List.length_append] at this; have := HM.out; omega
        · exfalso; have := hmb'.out; have := HG.out; have := h2.out; simp only [List.length_append] at this; have := HM.out; omega
        · skip
          have f1 : decide ((st : Int) < (m : Int)) = true := by have := HG.out; simp; omega
          have f1i : (st : Int) < (m : Int) := by have := HG.out; omega
          have f2 : decide ((m : Int) < (en : Int)) = true := by have := HG.out; simp; omega
          have f2i : (m : Int) < (en : Int) := by have := HG.out; omega
          have f3 : decide ((a : Int) < (st : Int)) = false := by have := HG.out; simp; omega
          have f3i : ¬ (a : Int) < (st : Int) := by have := HG.out; omega
          have f5 : decide ((mid : Int) < (en : Int)) = true := by have := HG.out; simp; omega
          have f5i : (mid : Int) < (en : Int) := by have := HG.out; omega
          have f6 : decide ((en : Int) < (b : Int)) = false := by have := HG.out; simp; omega
          have f6i : ¬ (en : Int) < (b : Int) := by have := HG.out; omega
          have M1 := Lib.hid (rotate_any (w0 := w0) (P ++ A1) A2 B1 (B2 ++ Q) cap (.func (.func g) #[] cb) wr (by simpa using hB) hw st m en N (by rw [List.length_append]; have := HG.out; have := HL.out; omega) (by rw [List.length_append]; have := HG.out; have := HL.out; omega) (by rw [List.length_append]; have := HG.out; have := HL.out; omega)
            (by simp only [List.length_append]; have := HL.out; simp only [List.length_append] at this; omega) hl a2 b1)
          go_wp2_with fail
          refine M1.out.mono ?_
          rintro e w3 ⟨rfl, hB3, hw3⟩
          have hB4 : RowB w3 R (P ++ A1 ++ B1 ++ (A2 ++ B2 ++ Q)) := by simpa using hB3
          clear hB hw hB3 M1
          have e1 : A1 = [] := List.eq_nil_of_length_eq_zero a1
          obtain ⟨C1, hC1⟩ : ∃ C1, C1 = A1 ++ B1 := ⟨_, rfl⟩
          have HP1 : Hid (C1.Perm (A1 ++ B1)) := by show C1.Perm _; rw [hC1]
          have HS1 : Hid (C1.Pairwise le) := by show C1.Pairwise le; rw [hC1, e1]; exact (List.pairwise_append.1 HSB.out).1
          have hB5 : RowB w3 R (P ++ C1 ++ (A2 ++ B2 ++ Q)) := by rw [hC1]; simpa using hB4
          clear e1 hB4 hC1
          have e2 : B2 = [] := List.eq_nil_of_length_eq_zero b2
          obtain ⟨C2, hC2⟩ : ∃ C2, C2 = A2 ++ B2 := ⟨_, rfl⟩
          have HP2 : Hid (C2.Perm (A2 ++ B2)) := by show C2.Perm _; rw [hC2]
          have HS2 : Hid (C2.Pairwise le) := by show C2.Pairwise le; rw [hC2, e2]; rw [List.append_nil]; exact (List.pairwise_append.1 HSA.out).2.1
          have hB7 : RowB w3 R (P ++ (C1 ++ C2) ++ Q) := by rw [hC2]; simpa using hB5
          clear e2 hB5 hC2
          go_wp2_with fail
          go_end0
          have hmc := merge_cut HSA.out HSB.out HX2.out.1 HX2.out.2 HP1.out HP2.out HS1.out HS2.out
          exact ⟨rfl, C1 ++ C2, by simpa using hmc.2, hmc.1, by simpa using hB7, hw3⟩
        · skip
          have f1 : decide ((st : Int) < (m : Int)) = true := by have := HG.out; simp; omega
          have f1i : (st : Int) < (m : Int) := by have := HG.out; omega
          have f2 : decide ((m : Int) < (en : Int)) = true := by have := HG.out; simp; omega
          have f2i : (m : Int) < (en : Int) := by have := HG.out; omega
          have f3 : decide ((a : Int) < (st : Int)) = false := by have := HG.out; simp; omega
          have f3i : ¬ (a : Int) < (st : Int) := by have := HG.out; omega
          have f5 : decide ((mid : Int) < (en : Int)) = true := by have := HG.out; simp; omega
          have f5i : (mid : Int) < (en : Int) := by have := HG.out; omega
          have f6 : decide ((en : Int) < (b : Int)) = true := by have := HG.out; simp; omega
          have f6i : (en : Int) < (b : Int) := by have := HG.out; omega
          have M1 := Lib.hid (rotate_any (w0 := w0) (P ++ A1) A2 B1 (B2 ++ Q) cap (.func (.func g) #[] cb) wr (by simpa using hB) hw st m en N (by rw [List.length_append]; have := HG.out; have := HL.out; omega) (by rw [List.length_append]; have := HG.out; have := HL.out; omega) (by rw [List.length_append]; have := HG.out; have := HL.out; omega)
            (by simp only [List.length_append]; have := HL.out; simp only [List.length_append] at this; omega) hl a2 b1)
          go_wp2_with fail
          refine M1.out.mono ?_
          rintro e w3 ⟨rfl, hB3, hw3⟩
          have hB4 : RowB w3 R (P ++ A1 ++ B1 ++ (A2 ++ B2 ++ Q)) := by simpa using hB3
          clear hB hw hB3 M1
          have e1 : A1 = [] := List.eq_nil_of_length_eq_zero a1
          obtain ⟨C1, hC1⟩ : ∃ C1, C1 = A1 ++ B1 := ⟨_, rfl⟩
          have HP1 : Hid (C1.Perm (A1 ++ B1)) := by show C1.Perm _; rw [hC1]
          have HS1 : Hid (C1.Pairwise le) := by show C1.Pairwise le; rw [hC1, e1]; exact (List.pairwise_append.1 HSB.out).1
          have hB5 : RowB w3 R (P ++ C1 ++ (A2 ++ B2 ++ Q)) := by rw [hC1]; simpa using hB4
          clear e1 hB4 hC1
          have lC : C1.length = A1.length + B1.length := by rw [HP1.out.length_eq, List.length_append]
          have LC := Lib.hid lC
          clear lC
          have M3 := Lib.hid (HIH.out (P ++ C1) A2 B2 Q cap w3 (by have := HF.out; simp only [List.length_append] at this; omega) a2 b2 (fun x hx => HD.out x (by rcases List.mem_append.1 hx with h | h <;> simp [h])) (fun x hx y hy => HX.out x (by simp [hx]) y (by simp [hy])) (List.pairwise_append.1 HSA.out).2.1 (List.pairwise_append.1 HSB.out).2.1 (by simpa using hB5) hw3 mid en b N (by rw [List.length_append]; have := LC.out; have := HG.out; have := HL.out; omega) (by rw [List.length_append]; have := LC.out; have := HG.out; have := HL.out; omega) (by rw [List.length_append]; have := LC.out; have := HG.out; have := HL.out; omega)
            (by simp only [List.length_append]; have := LC.out; have := HL.out; simp only [List.length_append] at this; omega) hl)
          go_wp2_with fail
          refine M3.out.mono ?_
          rintro e w5 ⟨rfl, C2, hP2, hS2, hB6, hw5⟩
          have HP2 := Lib.hid hP2
          have HS2 := Lib.hid hS2
          have hB7 : RowB w5 R (P ++ (C1 ++ C2) ++ Q) := by simpa using hB6
          clear hB5 hw3 M3 hP2 hS2 hB6
          go_wp2_with fail
          go_end0
          have hmc := merge_cut HSA.out HSB.out HX2.out.1 HX2.out.2 HP1.out HP2.out HS1.out HS2.out
          exact ⟨rfl, C1 ++ C2, by simpa using hmc.2, hmc.1, by simpa using hB7, hw5⟩
        · exfalso; have := hmb'.out; have := HG.out; have := h2.out; simp only [List.length_append] at this; have := HM.out; omega
        · skip
          have f1 : decide ((st : Int) < (m : Int)) = false := by have := HG.out; simp; omega
          have f1i : ¬ (st : Int) < (m : Int) := by have := HG.out; omega
          have f3 : decide ((a : Int) < (st : Int)) = true := by have := HG.out; simp; omega
          have f3i : (a : Int) < (st : Int) := by have := HG.out; omega
          have f4 : decide ((st : Int) < (mid : Int)) = false := by have := HG.out; simp; omega
          have f4i : ¬ (st : Int) < (mid : Int) := by have := HG.out; omega
          have f5 : decide ((mid : Int) < (en : Int)) = false := by have := HG.out; simp; omega
          have f5i : ¬ (mid : Int) < (en : Int) := by have := HG.out; omega
          have e0 : A2 = [] := List.eq_nil_of_length_eq_zero a2
          have hB4 : RowB wr R (P ++ A1 ++ B1 ++ (A2 ++ B2 ++ Q)) := by rw [e0] at hB ⊢; simpa using hB
          clear hB e0
          have e1 : B1 = [] := List.eq_nil_of_length_eq_zero b1
          obtain ⟨C1, hC1⟩ : ∃ C1, C1 = A1 ++ B1 := ⟨_, rfl⟩
          have HP1 : Hid (C1.Perm (A1 ++ B1)) := by show C1.Perm _; rw [hC1]
          have HS1 : Hid (C1.Pairwise le) := by show C1.Pairwise le; rw [hC1, e1]; rw [List.append_nil]; exact (List.pairwise_append.1 HSA.out).1
          have hB5 : RowB wr R (P ++ C1 ++ (A2 ++ B2 ++ Q)) := by rw [hC1]; simpa using hB4
          clear e1 hB4 hC1
          have e2 : A2 = [] := List.eq_nil_of_length_eq_zero a2
          obtain ⟨C2, hC2⟩ : ∃ C2, C2 = A2 ++ B2 := ⟨_, rfl⟩
          have HP2 : Hid (C2.Perm (A2 ++ B2)) := by show C2.Perm _; rw [hC2]
          have HS2 : Hid (C2.Pairwise le) := by show C2.Pairwise le; rw [hC2, e2]; exact (List.pairwise_append.1 HSB.out).2.1
          have hB7 : RowB wr R (P ++ (C1 ++ C2) ++ Q) := by rw [hC2]; simpa using hB5
          clear e2 hB5 hC2
          go_wp2_with fail
          go_end0
          have hmc := merge_cut HSA.out HSB.out HX2.out.1 HX2.out.2 HP1.out HP2.out HS1.out HS2.out
          exact ⟨rfl, C1 ++ C2, by simpa using hmc.2, hmc.1, by simpa using hB7, hw⟩
        · exfalso; have := hmb'.out; have := HG.out; have := h2.out; simp only [List.length_append] at this; have := HM.out; omega
        · skip
          have f1 : decide ((st : Int) < (m : Int)) = false := by have := HG.out; simp; omega
          have f1i : ¬ (st : Int) < (m : Int) := by have := HG.out; omega
          have f3 : decide ((a : Int) < (st : Int)) = true := by have := HG.out; simp; omega
          have f3i : (a : Int) < (st : Int) := by have := HG.out; omega
          have f4 : decide ((st : Int) < (mid : Int)) = true := by have := HG.out; simp; omega
          have f4i : (st : Int) < (mid : Int) := by have := HG.out; omega
          have f5 : decide ((mid : Int) < (en : Int)) = false := by have := HG.out; simp; omega
          have f5i : ¬ (mid : Int) < (en : Int) := by have := HG.out; omega
          have e0 : A2 = [] := List.eq_nil_of_length_eq_zero a2
          have hB4 : RowB wr R (P ++ A1 ++ B1 ++ (A2 ++ B2 ++ Q)) := by rw [e0] at hB ⊢; simpa using hB
          clear hB e0
          have M2 := Lib.hid (HIH.out P A1 B1 (A2 ++ B2 ++ Q) cap wr (by have := HF.out; simp only [List.length_append] at this; omega) a1 b1 (fun x hx => HD.out x (by rcases List.mem_append.1 hx with h | h <;> simp [h])) (fun x hx y hy => HX.out x (by simp [hx]) y (by simp [hy])) (List.pairwise_append.1 HSA.out).1 (List.pairwise_append.1 HSB.out).1 hB4 hw a st mid N HL.out.2.1 (by have := HG.out; have := HL.out; omega) (by have := HG.out; have := HL.out; omega)
            (by simp only [List.length_append]; have := HL.out; simp only [List.length_append] at this; omega) hl)
          go_wp2_with fail
          refine M2.out.mono ?_
          rintro e w4 ⟨rfl, C1, hP1, hS1, hB5, hw4⟩
          have HP1 := Lib.hid hP1
          have HS1 := Lib.hid hS1
          clear hB4 hw M2 hP1 hS1
          have e2 : A2 = [] := List.eq_nil_of_length_eq_zero a2
          obtain ⟨C2, hC2⟩ : ∃ C2, C2 = A2 ++ B2 := ⟨_, rfl⟩
          have HP2 : Hid (C2.Perm (A2 ++ B2)) := by show C2.Perm _; rw [hC2]
          have HS2 : Hid (C2.Pairwise le) := by show C2.Pairwise le; rw [hC2, e2]; exact (List.pairwise_append.1 HSB.out).2.1
          have hB7 : RowB w4 R (P ++ (C1 ++ C2) ++ Q) := by rw [hC2]; simpa using hB5
          clear e2 hB5 hC2
          go_wp2_with fail
          go_end0
          have hmc := merge_cut HSA.out HSB.out HX2.out.1 HX2.out.2 HP1.out HP2.out HS1.out HS2.out
          exact ⟨rfl, C1 ++ C2, by simpa using hmc.2, hmc.1, by simpa using hB7, hw4⟩
        · exfalso; have := hmb'.out; have := HG.out; have := h2.out; simp only [List.length_append] at this; have := HM.out; omega
        · exfalso; have := hmb'.out; have := HG.out; have := h2.out; simp only [List.length_append] at this; have := HM.out; omega
        · exfalso; have := hmb'.out; have := HG.out; have := h2.out; simp only [List.length_append] at this; have := HM.out; omega
        · skip
          have f1 : decide ((st : Int) < (m : Int)) = true := by have := HG.out; simp; omega
          have f1i : (st : Int) < (m : Int) := by have := HG.out; omega
          have f2 : decide ((m : Int) < (en : Int)) = true := by have := HG.out; simp; omega
          have f2i : (m : Int) < (en : Int) := by have := HG.out; omega
          have f3 : decide ((a : Int) < (st : Int)) = true := by have := HG.out; simp; omega
          have f3i : (a : Int) < (st : Int) := by have := HG.out; omega
          have f4 : decide ((st : Int) < (mid : Int)) = true := by have := HG.out; simp; omega
          have f4i : (st : Int) < (mid : Int) := by have := HG.out; omega
          have f5 : decide ((mid : Int) < (en : Int)) = true := by have := HG.out; simp; omega
          have f5i : (mid : Int) < (en : Int) := by have := HG.out; omega
          have f6 : decide ((en : Int) < (b : Int)) = true := by have := HG.out; simp; omega
          have f6i : (en : Int) < (b : Int) := by have := HG.out; omega
          have M1 := Lib.hid (rotate_any (w0 := w0) (P ++ A1) A2 B1 (B2 ++ Q) cap (.func (.func g) #[] cb) wr (by simpa using hB) hw st m en N (by rw [List.length_append]; have := HG.out; have := HL.out; omega) (by rw [List.length_append]; have := HG.out; have := HL.out; omega) (by rw [List.length_append]; have := HG.out; have := HL.out; omega)
            (by simp only [List.length_append]; have := HL.out; simp only [List.length_append] at this; omega) hl a2 b1)
          go_wp2_with fail
          refine M1.out.mono ?_
          rintro e w3 ⟨rfl, hB3, hw3⟩
          have hB4 : RowB w3 R (P ++ A1 ++ B1 ++ (A2 ++ B2 ++ Q)) := by simpa using hB3
          clear hB hw hB3 M1
          have M2 := Lib.hid (HIH.out P A1 B1 (A2 ++ B2 ++ Q) cap w3 (by have := HF.out; simp only [List.length_append] at this; omega) a1 b1 (fun x hx => HD.out x (by rcases List.mem_append.1 hx with h | h <;> simp [h])) (fun x hx y hy => HX.out x (by simp [hx]) y (by simp [hy])) (List.pairwise_append.1 HSA.out).1 (List.pairwise_append.1 HSB.out).1 hB4 hw3 a st mid N HL.out.2.1 (by have := HG.out; have := HL.out; omega) (by have := HG.out; have := HL.out; omega)
            (by simp only [List.length_append]; have := HL.out; simp only [List.length_append] at this; omega) hl)
          go_wp2_with fail
          refine M2.out.mono ?_
          rintro e w4 ⟨rfl, C1, hP1, hS1, hB5, hw4⟩
          have HP1 := Lib.hid hP1
          have HS1 := Lib.hid hS1
          clear hB4 hw3 M2 hP1 hS1
          have lC : C1.length = A1.length + B1.length := by rw [HP1.out.length_eq, List.length_append]
          have LC := Lib.hid lC
          clear lC
          have M3 := Lib.hid (HIH.out (P ++ C1) A2 B2 Q cap w4 (by have := HF.out; simp only [List.length_append] at this; omega) a2 b2 (fun x hx => HD.out x (by rcases List.mem_append.1 hx with h | h <;> simp [h])) (fun x hx y hy => HX.out x (by simp [hx]) y (by simp [hy])) (List.pairwise_append.1 HSA.out).2.1 (List.pairwise_append.1 HSB.out).2.1 (by simpa using hB5) hw4 mid en b N (by rw [List.length_append]; have := LC.out; have := HG.out; have := HL.out; omega) (by rw [List.length_append]; have := LC.out; have := HG.out; have := HL.out; omega) (by rw [List.length_append]; have := LC.out; have := HG.out; have := HL.out; omega)
            (by simp only [List.length_append]; have := LC.out; have := HL.out; simp only [List.length_append] at this; omega) hl)
          go_wp2_with fail
          refine M3.out.mono ?_
          rintro e w5 ⟨rfl, C2, hP2, hS2, hB6, hw5⟩
          have HP2 := Lib.hid hP2
          have HS2 := Lib.hid hS2
          have hB7 : RowB w5 R (P ++ (C1 ++ C2) ++ Q) := by simpa using hB6
          clear hB5 hw4 M3 hP2 hS2 hB6
          go_wp2_with fail
          go_end0
          have hmc := merge_cut HSA.out HSB.out HX2.out.1 HX2.out.2 HP1.out HP2.out HS1.out HS2.out
          exact ⟨rfl, C1 ++ C2, by simpa using hmc.2, hmc.1, by simpa using hB7, hw5⟩
end Go.Proofs.YtpklcjbdmikbdaaGreat
namespace Go.Proofs.YtpklcjbdmikbdaaGreat
open Go.RowKit

theorem merges_all {g : Nat} {cb : Array Value} {cf : Int → Int → Int} {w0 : World} {R : Nat} {D : Int → Prop} (C : Cmp g cb cf w0 R D) {le : Int → Int → Prop} (T : TotLe le) : ∀ f, Merges g cb cf w0 R D le f
  | 0 => fun P A B Q cap w hf hA hB => by omega
  | f + 1 => fun P A B Q cap w hf hA hB hD hX sA sB hR hw a m b N ha hm hb hN hl => by
    rcases Nat.lt_or_ge 1 A.length with h1 | h1
    · rcases Nat.lt_or_ge 1 B.length with h2 | h2
      · exact merge_step C T f (merges_all C T f) P A B Q cap w hf h1 h2 hD hX sA sB hR hw a m b N ha hm hb hN hl
      · match B, hB, h2 with
        | [y], _, _ =>
          have e : P ++ A ++ [y] ++ Q = P ++ A ++ y :: Q := by simp
          rw [e] at hR hN
          exact merge_right C T P A Q y cap w ⟨hD y (by simp), fun x hx => hD x (by simp [hx])⟩ (fun x hx => hX x hx y (by simp)) sA h1 hR hw a m b N ha hm (by simpa using hb) hN hl
    · match A, hA, h1 with
      | [x], _, _ =>
        have e : P ++ [x] ++ B ++ Q = P ++ (x :: B) ++ Q := by simp
        rw [e] at hR hN
        exact merge_left C T P B Q x cap w ⟨hD x (by simp), fun y hy => hD y (by simp [hy])⟩ (fun y hy => hX x (by simp) y hy) sB hR hw a m b N ha (by simpa using hm) (by simpa using hb) hN hl

/-- The insertion, told by numbers. -/
theorem insert_at {g : Nat} {cb : Array Value} {cf : Int → Int → Int} {w0 : World} {R : Nat} {D : Int → Prop} (C : Cmp g cb cf w0 R D) {le : Int → Int → Prop} (T : TotLe le)
    (P S Q : List Int) (cap : Nat) (w : World) (hD : ∀ x ∈ S, D x) (hA : S.Pairwise (Agrees cf le)) (hB : RowB w R (P ++ S ++ Q)) (hw : w0.grownBy w (some R)) (a b N : Nat) (ha : a = P.length) (hb : b = P.length + S.length) (hN : N = (P ++ S ++ Q).length) (hl : N ≤ 1000) :
    Calls Tryz.prog 99 #[.slice (some ⟨R, 0, none⟩) N cap, .int .i64 a, .int .i64 b, .func (.func g) #[] cb] w fun e w' =>
      e = .returned (.tuple #[]) ∧ ∃ S', S'.Perm S ∧ S'.Pairwise le ∧ RowB w' R (P ++ S' ++ Q) ∧ w0.grownBy w' (some R) := by
  have h := insert_any C T P S Q cap w hD hA (by simpa using hB) hw (by rw [← List.append_assoc, ← hN]; exact hl)
  subst ha hb
  rw [← List.append_assoc, ← hN] at h
  exact h.mono fun e w' ⟨he, S', h1, h2, h3, h4⟩ => ⟨he, S', h1, h2, by simpa using h3, h4⟩

set_option maxRecDepth 100000 in
set_option maxHeartbeats 8000000 in
theorem stable_any {g : Nat} {cb : Array Value} {cf : Int → Int → Int} {w0 : World} {R : Nat} {D : Int → Prop} (C : Cmp g cb cf w0 R D) {le : Int → Int → Prop} (T : TotLe le)
    (d : List Int) (cap : Nat) (w : World) (hD : ∀ x ∈ d, D x) (hA : d.Pairwise (Agrees cf le)) (hB : RowB w R d) (hw : w0.grownBy w (some R)) (n : Nat) (hn : n = d.length) (hl : n ≤ 1000) :
    Calls Tryz.prog 83 #[.slice (some ⟨R, 0, none⟩) n cap, .int .i64 n, .func (.func g) #[] cb] w fun e w' =>
      e = .returned (.tuple #[]) ∧ ∃ L, L.Perm d ∧ L.Pairwise le ∧ RowB w' R L ∧ w0.grownBy w' (some R) := by
  have HC := Lib.hid C
  have HT := Lib.hid T
  have HM := Lib.hid (merges_all C T 1000)
  have HA := Lib.hid hA
  have HD := Lib.hid hD
  have HN := Lib.hid hn
  clear C T hD hA hn
  go_enter Tryz.func83, Tryz.ntmps83
  go_wp2_with fail
  go_loopw [7, 8] (fun u t wr => ∃ (k a b : Nat) (L : List Int), u = .int .i64 a ∧ t = .int .i64 b ∧ b = a + 20 ∧ a ≤ n ∧ Hid (a = 20 * k ∧ Level le d L 1 20 k ∧ L.drop a = d.drop a) ∧ RowB wr R L ∧ w0.grownBy wr (some R)) (fun u _ _ => n - (intOf u).toNat)
  case atStart => exact ⟨0, 0, 20, d, rfl, rfl, rfl, Nat.zero_le _, ⟨rfl, Level.first d 20, rfl⟩, hB, hw⟩
  case round =>
    clear hB hw
    obtain ⟨k, a, b, L, rfl, rfl, hb, han, hH, hB, hw⟩ := hrel
    have HBa := Lib.hid hb
    have hbb : b ≤ 1020 := by omega
    by_cases hle : b ≤ n
    · have hbt : decide ((b : Int) ≤ (n : Int)) = true := by simp; omega
      have hbt2 : (b : Int) ≤ (n : Int) := by omega
      have hLl : L.length = n := hH.out.2.1.1.trans HN.out.symm
      have e1 : L = L.take a ++ ((L.drop a).take 20) ++ L.drop b := by
        rw [hb, ← List.drop_drop, List.append_assoc, List.take_append_drop, List.take_append_drop]
      have l1 : (L.take a).length = a := by rw [List.length_take]; omega
      have l2 : ((L.drop a).take 20).length = 20 := by rw [List.length_take, List.length_drop]; omega
      have hS : ((L.drop a).take 20).Sublist d := by rw [hH.out.2.2]; exact (List.take_sublist _ _).trans (List.drop_sublist _ _)
      have hLb : L.drop b = d.drop b := by rw [hb, ← List.drop_drop, hH.out.2.2, List.drop_drop]
      have HS := Lib.hid hS
      have HLb := Lib.hid hLb
      have HLv := Lib.hid hH.out.2.1
      have HK := Lib.hid hH.out.1
      clear hS hLb hH
      generalize L.take a = P at *
      generalize (L.drop a).take 20 = S at *
      generalize L.drop b = Q at *
      subst e1
      have M := Lib.hid (insert_at (w0 := w0) HC.out HT.out P S Q cap wr (fun x hx => HD.out x (HS.out.subset hx)) (HA.out.sublist HS.out) hB hw a b n l1.symm (by omega) hLl.symm hl)
      have HL1 := Lib.hid (And.intro l1 l2)
      clear hB hw hb l1 l2 hLl
      go_wp2_with fail
      refine M.out.mono ?_
      rintro e w2 ⟨rfl, S', hP, hS', hB2, hw2⟩
      have HP := Lib.hid hP
      have HS' := Lib.hid hS'
      clear hP hS' M
      go_wp2_with fail
      go_roundw
      case rel =>
        have hb := HBa.out
        have hL1 := HL1.out
        have hl2 := HP.out.length_eq
        refine ⟨k + 1, b, b + 20, P ++ S' ++ Q, rfl, by go_num, rfl, hle, ⟨by have := HK.out; omega, ?_, ?_⟩, hB2, hw2⟩
        · exact HLv.out.step (c := 20) rfl (by have := HK.out; omega) (.inl hL1.2) HP.out HS'.out
        · rw [drop_hi (X := P ++ S') (by rw [List.length_append]; omega), List.length_append, show b - (P.length + S'.length) = 0 by omega, List.drop_zero]
          exact HLb.out
      case measure => have := HBa.out; simp [intOf]; omega
    · have hbt : decide ((b : Int) ≤ (n : Int)) = false := by simp; omega
      have hbt2 : ¬ (b : Int) ≤ (n : Int) := by omega
      have hLl : L.length = n := hH.out.2.1.1.trans HN.out.symm
      have e1 : L = L.take a ++ L.drop a ++ [] := by rw [List.append_nil, List.take_append_drop]
      have l1 : (L.take a).length = a := by rw [List.length_take]; omega
      have l2 : (L.drop a).length = n - a := by rw [List.length_drop]; omega
      have hS : (L.drop a).Sublist d := by rw [hH.out.2.2]; exact List.drop_sublist _ _
      have HS := Lib.hid hS
      have HLv := Lib.hid hH.out.2.1
      have HK := Lib.hid hH.out.1
      clear hS hH
      generalize L.take a = P at *
      generalize L.drop a = S at *
      subst e1
      have M := Lib.hid (insert_at (w0 := w0) HC.out HT.out P S [] cap wr (fun x hx => HD.out x (HS.out.subset hx)) (HA.out.sublist HS.out) hB hw a n n l1.symm (by omega) hLl.symm hl)
      have HL1 := Lib.hid (And.intro l1 l2)
      clear hB hw hb l1 l2 hLl
      go_wp2_with fail
      refine M.out.mono ?_
      rintro e w2 ⟨rfl, S', hP, hS', hB2, hw2⟩
      have HL2 : Hid (Level le d (P ++ S' ++ []) 20 40 0) := by
        have h1 := HL1.out
        have h2 := HBa.out
        have h3 := HK.out
        have h4 := HN.out
        have h5 := HLv.out.step (c := 20) rfl (by omega) (.inr ⟨by omega, rfl⟩) hP hS'
        exact h5.next 40 (by omega)
      generalize P ++ S' ++ [] = L at *
      clear M HL1 HS HLv HK HBa hP hS' hbt hbt2 hle han
      go_wp2_with fail
      go_loopw [6] (fun u wr => ∃ (bs : Nat) (L : List Int), u = .int .i64 bs ∧ 20 ≤ bs ∧ bs ≤ 2000 ∧ Hid (Level le d L bs (2 * bs) 0) ∧ RowB wr R L ∧ w0.grownBy wr (some R)) (fun u _ => n - (intOf u).toNat)
      case atStart => exact ⟨20, L, rfl, Nat.le_refl _, by omega, HL2, hB2, hw2⟩
      case round =>
        clear hB2 hw2 HL2
        obtain ⟨bs, L, rfl, hb20, hb2k, hLv, hB, hw⟩ := hrel
        by_cases hlt : bs < n
        · have hbt : decide ((bs : Int) < (n : Int)) = true := by simp; omega
          have hbt2 : (bs : Int) < (n : Int) := by omega
          obtain ⟨M2, hM2⟩ : ∃ M2, M2 = 2 * bs := ⟨_, rfl⟩
          have q1 : 2 * (bs : Int) = (M2 : Int) := by omega
          have q2 : (bs : Int) * 2 = (M2 : Int) := by omega
          have hM3 : M2 ≤ 2000 := by omega
          rw [← hM2] at hLv
          have HM2 := Lib.hid hM2
          clear hM2
          go_wp2_with fail
          go_loopw [7, 8] (fun u t wr => ∃ (k a b : Nat) (L : List Int), u = .int .i64 a ∧ t = .int .i64 b ∧ b ≤ a + 2000 ∧ a ≤ n ∧ Hid (b = a + M2 ∧ a = M2 * k ∧ Level le d L bs M2 k) ∧ RowB wr R L ∧ w0.grownBy wr (some R)) (fun u _ _ => n - (intOf u).toNat)
          case atStart => exact ⟨0, 0, M2, L, rfl, rfl, by omega, Nat.zero_le _, ⟨by omega, rfl, hLv.out⟩, hB, hw⟩
          case round =>
            clear hB hw hLv
            obtain ⟨k, a, b, L, rfl, rfl, hb, han, hH, hB, hw⟩ := hrel
            obtain ⟨m, hm⟩ : ∃ m, m = a + bs := ⟨_, rfl⟩
            have q3 : (a : Int) + (bs : Int) = (m : Int) := by omega
            have hHo := hH.out
            have hLl : L.length = n := hHo.2.2.1.trans HN.out.symm
            have hM2 := HM2.out
            have ek : a = bs * (2 * k) := by rw [hHo.2.1, hM2, Nat.mul_comm 2 bs, Nat.mul_assoc]
            have em : m = bs * (2 * k + 1) := by rw [Nat.mul_succ, ← ek]; exact hm
            have fa := hHo.2.2.2.2.2 (2 * k) (by rw [← ek, hHo.2.1]; exact Nat.le_refl _)
            have fm := hHo.2.2.2.2.2 (2 * k + 1) (by rw [← em]; have := hHo.2.1; omega)
            rw [← ek] at fa
            rw [← em] at fm
            have hLp : L.Perm d := hHo.2.2.perm (c := 2) (by omega) (by omega)
            have hcr := prm_cross HA.out fm.1 hLp
            have sA0 : ((L.drop a).take bs).Pairwise le := fa.2
            have sB0 : ((L.drop m).take bs).Pairwise le := fm.2
            have hmb : m ≤ 3000 := by omega
            by_cases hle : b ≤ n
            · have hbe : decide ((b : Int) ≤ (n : Int)) = true := by simp; omega
              have hbe2 : (b : Int) ≤ (n : Int) := by omega
              have hbM := hHo.1
              have e1 : L = L.take a ++ ((L.drop a).take bs) ++ ((L.drop m).take bs) ++ L.drop b := by
                rw [show b = m + bs by omega, ← List.drop_drop, List.append_assoc, List.take_append_drop, hm, ← List.drop_drop, List.append_assoc, List.take_append_drop, List.take_append_drop]
              have e2 : L.take m = L.take a ++ ((L.drop a).take bs) := by rw [hm, List.take_add]
              have e3 : L.drop m = ((L.drop m).take bs) ++ L.drop b := by rw [show b = m + bs by omega, ← List.drop_drop, List.take_append_drop]
              have l1 : (L.take a).length = a := by rw [List.length_take]; omega
              have l2 : ((L.drop a).take bs).length = bs := by rw [List.length_take, List.length_drop]; omega
              have l3 : ((L.drop m).take bs).length = bs := by rw [List.length_take, List.length_drop]; omega
              have hLv := hHo.2.2
              rw [e2, e3] at hcr
              clear e2 e3 fa fm
              generalize L.take a = P at *
              generalize (L.drop a).take bs = A at *
              generalize (L.drop m).take bs = B at *
              generalize L.drop b = Q at *
              subst e1
              have M := Lib.hid (HM.out P A B Q cap wr (by omega) (by omega) (by omega) (fun x hx => HD.out x (hLp.mem_iff.1 (by rcases List.mem_append.1 hx with h | h <;> simp [h]))) (fun x hx y hy => hcr x (by simp [hx]) y (by simp [hy])) sA0 sB0 hB hw a m b n l1.symm (by omega) (by omega) hLl.symm hl)
              have HO := Lib.hid (And.intro l1 (And.intro l2 (And.intro l3 (And.intro hbM (And.intro hHo.2.1 (And.intro hM2 hm))))))
              have HLv := Lib.hid hLv
              clear hB hw hH hHo hLl ek em hLp hcr sA0 sB0 l1 l2 l3 hLv hbM hM2 hm
              go_wp2_with fail
              refine M.out.mono ?_
              rintro e w2 ⟨rfl, C', hP, hS', hB2, hw2⟩
              have HP := Lib.hid hP
              have HS' := Lib.hid hS'
              have hbn : b ≤ 1000 := by omega
              clear hP hS' M
              go_wp2_with fail
              go_roundw
              case rel =>
                obtain ⟨l1, l2, l3, hbM, hak, hM2, hm⟩ := HO.out
                have hl2 := HP.out.length_eq
                rw [List.length_append] at hl2
                refine ⟨k + 1, b, b + M2, P ++ C' ++ Q, rfl, by first | rfl | go_num, by omega, hle, ⟨rfl, by rw [Nat.mul_succ]; omega, ?_⟩, hB2, hw2⟩
                have h1 := HLv.out
                rw [List.append_assoc P A B] at h1
                exact h1.step (c := 2) (by omega) (by omega) (.inl (by rw [List.length_append]; omega)) HP.out HS'.out
              case measure => have := HO.out.2.2.2.1; simp [intOf]; omega
            · have hbe : decide ((b : Int) ≤ (n : Int)) = false := by simp; omega
              have hbe2 : ¬ (b : Int) ≤ (n : Int) := by omega
              have hbM := hHo.1
              by_cases hmn : m < n
              · have hbm : decide ((m : Int) < (n : Int)) = true := by simp; omega
                have hbm2 : (m : Int) < (n : Int) := by omega
                have e1 : L = L.take a ++ ((L.drop a).take bs) ++ (L.drop m) ++ [] := by
                  rw [List.append_nil, hm, ← List.drop_drop, List.append_assoc, List.take_append_drop, List.take_append_drop]
                have e2 : L.take m = L.take a ++ ((L.drop a).take bs) := by rw [hm, List.take_add]
                have l1 : (L.take a).length = a := by rw [List.length_take]; omega
                have l2 : ((L.drop a).take bs).length = bs := by rw [List.length_take, List.length_drop]; omega
                have l3 : (L.drop m).length = n - m := by rw [List.length_drop]; omega
                rw [List.take_of_length_le (by omega)] at sB0
                have hLv := hHo.2.2
                rw [e2] at hcr
                clear e2 fa fm
                generalize L.take a = P at *
                generalize (L.drop a).take bs = A at *
                generalize L.drop m = B at *
                subst e1
                have M := Lib.hid (HM.out P A B [] cap wr (by omega) (by omega) (by omega) (fun x hx => HD.out x (hLp.mem_iff.1 (by rcases List.mem_append.1 hx with h | h <;> simp [h]))) (fun x hx y hy => hcr x (by simp [hx]) y hy) sA0 sB0 hB hw a m n n l1.symm (by omega) (by omega) hLl.symm hl)
                have HO := Lib.hid (And.intro l1 (And.intro l2 (And.intro l3 (And.intro hbM (And.intro hHo.2.1 (And.intro hM2 hm))))))
                have HLv := Lib.hid hLv
                clear hB hw hH hHo hLl ek em hLp hcr sA0 sB0 l1 l2 l3 hLv hbM hM2 hm
                go_wp2_with fail
                refine M.out.mono ?_
                rintro e w2 ⟨rfl, C', hP, hS', hB2, hw2⟩
                have HP := Lib.hid hP
                have HS' := Lib.hid hS'
                clear hP hS' M
                go_wp2_with fail
                go_roundw
                case rel =>
                  obtain ⟨l1, l2, l3, hbM, hak, hM2, hm⟩ := HO.out
                  refine ⟨M2, P ++ C' ++ [], by first | rfl | go_num, by omega, hM3, ?_, hB2, hw2⟩
                  have h1 := HLv.out
                  rw [List.append_assoc P A B] at h1
                  exact (h1.step (c := 2) (by omega) (by omega) (.inr ⟨by rw [List.length_append]; omega, rfl⟩) HP.out HS'.out).next _ (by rw [Nat.mul_succ, ← hak, ← HN.out]; omega)
                case measure => have := HM2.out; simp [intOf]; omega
              · have hbm : decide ((m : Int) < (n : Int)) = false := by simp; omega
                have hbm2 : ¬ (m : Int) < (n : Int) := by omega
                have HLv : Hid (Level le d L M2 (2 * M2) 0) := by
                  have h1 := hHo.2.2
                  have e1 : L = L.take a ++ L.drop a ++ [] := by rw [List.append_nil, List.take_append_drop]
                  have e3 : (L.drop a).take bs = L.drop a := List.take_of_length_le (by rw [List.length_drop]; omega)
                  rw [e3] at sA0
                  have l1 : (L.take a).length = a := by rw [List.length_take]; omega
                  have l2 : (L.drop a).length = n - a := by rw [List.length_drop]; omega
                  rw [e1] at h1
                  have h2 := (h1.step (c := 2) (by omega) (by have := hHo.2.1; omega) (.inr ⟨by omega, rfl⟩) (List.Perm.refl _) sA0).next (2 * M2) (by rw [Nat.mul_succ, ← hHo.2.1, ← HN.out]; omega)
                  rw [← e1] at h2
                  exact h2
                clear hH hHo hLl ek em hLp hcr sA0 sB0 hbM hM2 hm fa fm
                go_wp2_with fail
                go_roundw
                case rel => exact ⟨M2, L, by first | rfl | go_num, by have := HM2.out; omega, hM3, HLv, hB, hw⟩
                case measure => have := HM2.out; simp [intOf]; omega
        · have hbt : decide ((bs : Int) < (n : Int)) = false := by simp; omega
          have hbt2 : ¬ (bs : Int) < (n : Int) := by omega
          go_wp2_with fail
          go_end0
          have h := hLv.out.done (by have := HN.out; omega)
          exact ⟨rfl, L, h.1, h.2, hB, hw⟩
end Go.Proofs.YtpklcjbdmikbdaaGreat
namespace Go.Proofs.YtpklcjbdmikbdaaGreat
set_option maxRecDepth 100000
open Go.RowKit

set_option maxHeartbeats 1000000 in
theorem sort_any {g : Nat} {cb : Array Value} {cf : Int → Int → Int} {w0 : World} {R : Nat} {D : Int → Prop} (C : Cmp g cb cf w0 R D) {le : Int → Int → Prop} (T : TotLe le)
    (d : List Int) (cap : Nat) (w : World) (hD : ∀ x ∈ d, D x) (hA : d.Pairwise (Agrees cf le)) (hB : RowB w R d) (hw : w0.grownBy w (some R)) (n : Nat) (hn : n = d.length) (hl : n ≤ 1000) :
    Calls Tryz.prog 65 #[.slice (some ⟨R, 0, none⟩) n cap, .func (.func g) #[] cb] w fun e w' =>
      e = .returned (.tuple #[]) ∧ ∃ L, L.Perm d ∧ L.Pairwise le ∧ RowB w' R L ∧ w0.grownBy w' (some R) := by
  have M := Lib.hid (stable_any C T d cap w hD hA hB hw n hn hl)
  clear C T hD hA hB hw hn
  go_enter Tryz.func65, Tryz.ntmps65
  go_wp2_with fail
  refine M.out.mono ?_
  rintro e w2 ⟨rfl, L, h1, h2, h3, h4⟩
  have H1 := Lib.hid h1
  have H2 := Lib.hid h2
  clear h1 h2
  go_wp2_with fail
  go_end0
  exact ⟨rfl, L, H1.out, H2.out, h3, h4⟩

theorem isNaN_any (x : Int) (w : World) : Calls Tryz.prog 84 #[.int .i64 x] w fun e w' => e = .returned (.bool false) ∧ w = w' := by
  go_enter Tryz.func84, Tryz.ntmps84
  go_wp2
  go_ret
  exact ⟨rfl, rfl⟩
theorem compare_any (x y : Int) (w : World) : Calls Tryz.prog 67 #[.int .i64 x, .int .i64 y] w fun e w' => e = .returned (.int .i64 (cmpI x y)) ∧ w = w' := by
  go_enter Tryz.func67, Tryz.ntmps67
  by_cases h1 : x < y
  · have e1 : cmpI x y = -1 := by unfold cmpI; rw [if_pos h1]
    rw [e1]
    have hb1 : decide (x < y) = true := by simpa using h1
    clear e1
    go_wp2_with (go_at_call 84; refine (isNaN_any _ _).mono ?_; rintro e w' ⟨rfl, rfl⟩)
    go_ret
    exact ⟨rfl, rfl⟩
  · have hb1 : decide (x < y) = false := by simpa using h1
    by_cases h2 : y < x
    · have e1 : cmpI x y = 1 := by unfold cmpI; rw [if_neg h1, if_pos h2]
      rw [e1]
      have hb2 : decide (y < x) = true := by simpa using h2
      clear e1
      go_wp2_with (go_at_call 84; refine (isNaN_any _ _).mono ?_; rintro e w' ⟨rfl, rfl⟩)
      go_ret
      exact ⟨rfl, rfl⟩
    · have e1 : cmpI x y = 0 := by unfold cmpI; rw [if_neg h1, if_neg h2]
      rw [e1]
      have hb2 : decide (y < x) = false := by simpa using h2
      clear e1
      go_wp2_with (go_at_call 84; refine (isNaN_any _ _).mono ?_; rintro e w' ⟨rfl, rfl⟩)
      go_ret
      exact ⟨rfl, rfl⟩

theorem info3 : (Tryz.prog.info? 3).map (fun i => (i.zero, i.size, i.bytes)) = some (some (.int .i64 0), 1, 8) := by kernel_rfl
/-- A new row of zeros. -/
theorem make_ints (n : Nat) (hn : n ≤ 100000) (w : World) : (Instr.makeSlice 43 (.int .i64 (n : Int)) (.int .i64 (n : Int))).run Tryz.prog w = .ok (.slice (some ⟨w.heap.size, 0, none⟩) n n) (w.alloc (.cells (rowc (List.replicate n 0)) 3)) := by
  obtain ⟨i0, hi, hz0, hz1, hz2⟩ := info_parts info3
  have hr := run_make (P := Tryz.prog) w 43 3 i0 (.int .i64 0) Tryz.underlying43 hi hz0 .i64 .i64 n n (by omega) (Int.le_refl _) (by rw [hz2]; omega) (by omega)
  simp only [Int.toNat_natCast] at hr
  rw [hr, hz1, Nat.mul_one]
  have e : madeCells (Value.int .i64 0).cells n = rowc (List.replicate n 0) := by
    apply Array.toList_inj.1
    have := toList_madeCells_one (.int .i64 0) n
    show (madeCells #[.int .i64 0] n).toList = _
    rw [this]
    simp [rowc]
  rw [e]
theorem nums_get {n i : Nat} (h : i < n) : (nums n)[i]? = some (i : Int) := by simp [nums, h]

end Go.Proofs.YtpklcjbdmikbdaaGreat
namespace Go.Proofs.YtpklcjbdmikbdaaGreat
open Go.RowKit

theorem RowH.rowI {w : World} {A : Option Addr} {n : Nat} {l : List Int} (h : RowH w A n l) : RowI w A n l :=
  ⟨h.1, fun hn => by
    obtain ⟨g, e, hg, hc⟩ := h.2 hn
    exact ⟨_, e, hg, fun k v hk => by rw [Addr.add_lit, Nat.zero_add]; exact hc k v hk⟩⟩
theorem ints_one (l : List Int) : ∀ u ∈ l.map (Value.int .i64), u.oneCell' = true := by
  intro u hu
  obtain ⟨x, _, rfl⟩ := List.mem_map.1 hu
  rfl
theorem rowI_news {w : World} {a : Addr} {n : Nat} {l : List Int} (h : RowI w (some a) n l) (hn : 0 < n) : ∀ j u, (l.map (Value.int .i64))[j]? = some u → w.cell? (a.add j) = some u := by
  obtain ⟨a', e, hg, hc⟩ := h.2 hn
  cases e
  intro j u hj
  rw [List.getElem?_map] at hj
  cases hx : l[j]? with
  | none => rw [hx] at hj; simp at hj
  | some x =>
    rw [hx] at hj
    simp at hj
    rw [hc j x hx, hj]
theorem app_ints (w : World) {ops : Array Oper} {rest : List Oper} {o : Oper} {a : Act} {Q : Exit → Act → World → Prop} (hgd : o.guard = none) (s x : Operand)
    (ho : o.op = .call { callee := .builtin .append, args := #[s, x], argTypes := #[43, 43] }) (base : Nat) (v : Value) (n : Nat) (xs : List Int) (hs : a.eval s = v) (hown : w.ownsRow base 3 1 v n (xs.map (Value.int .i64)))
    (ao : Option Addr) (m c : Nat) (l : List Int) (hx : a.eval x = .slice ao m c) (hr : RowI w ao m l) (hn : n + m ≤ 100000) (hbase : base ≤ w.heap.size)
    (h : ∀ v' w', w'.ownsRow base 3 1 v' (n + m) ((xs ++ l).map (Value.int .i64)) → w.grownBy w' v.ownBlock → wpList Tryz.prog ops Q rest (a.put o.dst v') w') : wpList Tryz.prog ops Q (o :: rest) a w := by
  obtain ⟨i0, hi, hz0, hz1, hz2⟩ := info_parts info3
  rcases Nat.eq_zero_or_pos m with z | z
  · subst z
    have hl : l = [] := List.eq_nil_of_length_eq_zero hr.1
    subst hl
    have hsrc : Src Tryz.prog i0.size 43 (.slice ao 0 c) 0 [] w := by
      cases ao with
      | none => exact Src.ofNil w Tryz.underlying43 c
      | some ad => exact Src.ofSlice w Tryz.underlying43 ad 0 c [] (by simp) (by simp) (by simp)
    obtain ⟨b, sl, sc, hv, hle⟩ : ∃ b sl sc, v = .slice b sl sc ∧ sl ≤ sc := by
      rcases hown.2 with ⟨h1, _⟩ | ⟨g, cap, cur, h1, _, _, h2, _⟩
      · exact ⟨_, _, _, h1, Nat.le_refl _⟩
      · exact ⟨_, _, _, h1, h2⟩
    have hrun := run_append_nothing (P := Tryz.prog) w 43 43 o.type 3 i0 Tryz.underlying43 hi b sl sc hle _ hsrc
    rw [← hv] at hrun
    refine wpList_plain hgd fun K hK => ?_
    unfold Oper.wp
    simp [execOp, ho, resolve, invoke, builtin, hs, hx, hrun, Result.andThen]
    exact hK _ _ (h v w (by simpa using hown) (World.grownBy.refl _ _))
  · obtain ⟨ad, e, _, _⟩ := hr.2 z
    subst e
    refine wpList_append_lies w hgd s x 43 ho base 3 i0 (.int .i64 0) 1 8 Tryz.underlying43 hi hz0 hz1 hz2 rfl (by decide) v n _ hs hown ad m c (l.map (Value.int .i64)) hx (by rw [List.length_map, hr.1]; omega) (rowI_news hr z) (ints_one _) z (by unfold maxLen; omega) (by omega) hbase _ rfl ?_
    intro g cap w' hown' hgr _ _
    exact h _ _ (by rw [List.map_append]; exact hown') hgr
end Go.Proofs.YtpklcjbdmikbdaaGreat
