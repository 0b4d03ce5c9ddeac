/-
  The seat's texts Sort1 Sort2 Sort3 Sort4 Sort5 in one: the contracts of the functions that the law reaches, and the plain laws that they rest on.
  Conditions: as each theorem states them.
-/
import Derived.Test.YtnfcigbiebbjdaaProg
import Derived.Test.YtnfcigbiebbjdaaG1
import Derived.BigRegion
import Derived.WalkKit
import Derived.Shelf.Abstract
namespace Go.Proofs.Ytnfcigbiebbjdaa
open Go.RowKit

/-- What is asked of a comparison: g is its function, cb what it has captured, R the row's block, D which numbers it is asked about. -/
structure Cmp (g : Nat) (cb : Array Value) (cf : Int → Int → Int) (w0 : World) (R : Nat) (D : Int → Prop) : Prop where
  enters : ∀ args w, (callFunc g args).run Try.prog w = .ok (.enter g args) w
  tells : ∀ W, w0.grownBy W (some R) → ∀ x y, D x → D y → Calls Try.prog g (#[.int .i64 x, .int .i64 y] ++ cb) W fun e w' => e = .returned (.int .i64 (cf x y)) ∧ Below W.heap.size W w'
/-- Earlier and later: the comparison agrees with the order. -/
def Agrees (cf : Int → Int → Int) (le : Int → Int → Prop) (x y : Int) : Prop := cf y x < 0 ↔ ¬ le x y

theorem ins_perm {S C1 X Y : List Int} {k : Nat} {x : Int} (hx : S[k]? = some x) (hP : C1.Perm (S.take k)) (hC : C1 = X ++ Y) : (X ++ x :: Y).Perm (S.take (k + 1)) := by
  rw [List.take_add_one, hx]
  subst hC
  show (X ++ x :: Y).Perm (S.take k ++ [x])
  exact (List.perm_middle.trans (List.Perm.cons x hP)).trans (List.perm_append_comm (l₁ := [x]))
theorem ins_agree {cf : Int → Int → Int} {le : Int → Int → Prop} {S C1 : List Int} {k : Nat} {x s : Int} (hA : S.Pairwise (Agrees cf le)) (hx : S[k]? = some x) (hP : C1.Perm (S.take k)) (hs : s ∈ C1) : Agrees cf le s x := by
  have h1 := hP.mem_iff.1 hs
  have hk := (List.getElem?_eq_some_iff.1 hx).1
  have e : S = S.take k ++ S.drop k := (List.take_append_drop k S).symm
  rw [e] at hA
  refine (List.pairwise_append.1 hA).2.2 s h1 x ?_
  rw [List.drop_eq_getElem_cons hk, (List.getElem?_eq_some_iff.1 hx).2]
  simp

theorem two_at (P X Z : List Int) (s x : Int) : (P ++ ((X ++ [s]) ++ x :: Z))[P.length + X.length]? = some s ∧ (P ++ ((X ++ [s]) ++ x :: Z))[P.length + X.length + 1]? = some x := by
  have e : P ++ ((X ++ [s]) ++ x :: Z) = (P ++ X) ++ s :: x :: Z := by simp
  rw [e, ← List.length_append]
  exact ⟨at_mid _ _ _, at_mid1 _ _ _ _⟩
theorem two_swap (P X Z : List Int) (s x : Int) : ((P ++ ((X ++ [s]) ++ x :: Z)).set (P.length + X.length + 1) s).set (P.length + X.length) x = P ++ (X ++ x :: s :: Z) := by
  have e : P ++ ((X ++ [s]) ++ x :: Z) = (P ++ X) ++ s :: x :: Z := by simp
  rw [e, ← List.length_append, List.set_comm _ _ (by omega), swap_next]
  simp

set_option maxHeartbeats 2000000 in
theorem insert_any {g : Nat} {cb : Array Value} {cf : Int → Int → Int} {w0 : World} {R : Nat} {D : Int → Prop} (C : Cmp g cb cf w0 R D) {le : Int → Int → Prop} (T : TotLe le)
    (pre S post : List Int) (cap : Nat) (w : World) (hD : ∀ x ∈ S, D x) (hA : S.Pairwise (Agrees cf le)) (hB : RowB w R (pre ++ (S ++ post))) (hw : w0.grownBy w (some R))
    (hl : (pre ++ (S ++ post)).length ≤ 1000) :
    Calls Try.prog 91 #[.slice (some ⟨R, 0, none⟩) (pre ++ (S ++ post)).length cap, .int .i64 pre.length, .int .i64 (pre.length + S.length : Nat), .func (.func g) #[] cb] w fun e w' =>
      e = .returned (.tuple #[]) ∧ ∃ S', S'.Perm S ∧ S'.Pairwise le ∧ RowB w' R (pre ++ (S' ++ post)) ∧ w0.grownBy w' (some R) := by
  have eg := C.enters
  have HC := Lib.hid C
  have HT := Lib.hid T
  have HA := Lib.hid hA
  have HD := Lib.hid hD
  clear C T hA hD
  simp only [List.length_append] at hl
  obtain ⟨N, hN⟩ : ∃ N, N = (pre ++ (S ++ post)).length := ⟨_, rfl⟩
  have hN' := hN
  simp only [List.length_append] at hN'
  rw [← hN]
  have HN := Lib.hid hN'
  clear hN hN'
  go_enter Try.func91, Try.ntmps91
  go_wp2_with fail
  go_loopw [8] (fun i wr => ∃ (k : Nat) (C1 : List Int), i = .int .i64 (pre.length + k : Nat) ∧ 1 ≤ k ∧ (k ≤ S.length ∨ S.length = 0) ∧ Hid (C1.Perm (S.take k)) ∧ Hid (C1.Pairwise le) ∧ RowB wr R (pre ++ (C1 ++ (S.drop k ++ post))) ∧ w0.grownBy wr (some R)) (fun i _ => pre.length + S.length - (intOf i).toNat)
  case atStart =>
    cases S with
    | nil => exact ⟨1, [], by go_num, Nat.le_refl _, .inr rfl, List.Perm.refl _, List.Pairwise.nil, by simpa using hB, hw⟩
    | cons s S => exact ⟨1, [s], by go_num, Nat.le_refl _, .inl (by simp), List.Perm.refl _, by simp [Lib.hid], by simpa using hB, hw⟩
  case round =>
    clear hB hw
    obtain ⟨k, C1, rfl, hk1, hkS, hP, hS, hBr, hwr⟩ := hrel
    by_cases hlt : k < S.length
    · obtain ⟨x, hx⟩ : ∃ x, S[k]? = some x := ⟨_, List.getElem?_eq_getElem hlt⟩
      have hdrop : S.drop k = x :: S.drop (k + 1) := by
        rw [List.drop_eq_getElem_cons hlt, (List.getElem?_eq_some_iff.1 hx).2]
      have hlen : C1.length = k := by rw [hP.out.length_eq, List.length_take]; omega
      rw [hdrop] at hBr
      have HX := Lib.hid hx
      clear hx hdrop
      obtain ⟨q, hq⟩ : ∃ q, q = pre.length + k := ⟨_, rfl⟩
      obtain ⟨z, hz⟩ : ∃ z, z = pre.length + S.length := ⟨_, rfl⟩
      have hb1 : decide ((q : Int) < (z : Int)) = true := by simp; omega
      rw [← hq, ← hz]
      go_wp2_with fail
      go_loopw [9] (fun j wr => ∃ (X Y : List Int), j = .int .i64 (pre.length + X.length : Nat) ∧ Hid (C1 = X ++ Y) ∧ Hid (∀ s ∈ Y, le x s) ∧ RowB wr R (pre ++ (X ++ x :: (Y ++ (S.drop (k + 1) ++ post)))) ∧ w0.grownBy wr (some R)) (fun j _ => (intOf j).toNat)
      case atStart => exact ⟨C1, [], by rw [hlen, hq], by show _ = _; simp, by simp [Lib.hid], by simpa using hBr, hwr⟩
      case round =>
        obtain ⟨X, Y, rfl, hC, hY, hBj, hwj⟩ := hrel
        rcases List.eq_nil_or_concat X with rfl | ⟨X0, s, rfl⟩
        · have hb2 : decide ((pre.length : Int) > (pre.length : Int)) = false := by simp
          have hb3 : decide ((pre.length : Int) < (pre.length : Int)) = false := by simp
          simp only [List.length_nil, Nat.add_zero]
          have hx := later_cell (w := wr)
          go_wp2_with fail
          refine wp_region_later (by kernel_rfl) (by kernel_rfl) ?_
          repeat (go_big_quiet_step (fail))
          refine wpQuiet_nil ?_
          rintro w2 ⟨⟨_, hb2⟩, rfl⟩
          have hBj2 := hBj.later hb2
          go_wp2_with fail
          go_roundw
          case rel =>
            refine ⟨k + 1, x :: Y, by go_num, by omega, by omega, ins_perm HX.out hP.out hC.out, ?_, by simpa using hBj2, only_trans_below hwj hb2⟩
            have h0 := hS.out
            rw [hC.out] at h0
            exact ins_sorted (S1 := []) h0 hY.out (by simp)
          case measure => simp [intOf]; omega
        · rw [List.concat_eq_append] at *
          obtain ⟨p, hp⟩ : ∃ p, p = pre.length + X0.length := ⟨_, rfl⟩
          have cs : wr.cell? ⟨R, p, none⟩ = some (.int .i64 s) := hBj.at_ (by rw [hp]; exact (two_at _ _ _ _ _).1)
          have cx : wr.cell? ⟨R, p + 1, none⟩ = some (.int .i64 x) := hBj.at_ (by rw [hp]; exact (two_at _ _ _ _ _).2)
          have hpl : p + 1 < N := by
            have h1 := hC.out
            have h2 := congrArg List.length h1
            simp at h2
            have := HN.out
            omega
          have lR := hBj.lt
          have hs : s ∈ C1 := by rw [hC.out]; simp
          have hsD : D s := HD.out s (by have := hP.out.mem_iff.1 hs; exact List.mem_of_mem_take this)
          have hxD : D x := HD.out x (List.mem_of_getElem? HX.out)
          have hag := Lib.hid (ins_agree HA.out HX.out hP.out hs)
          have M : Hid (∀ y : Later wr, Hid (Calls Try.prog g (#[.int .i64 x, .int .i64 s] ++ cb) y.val fun e w' => e = .returned (.int .i64 (cf x s)) ∧ ∃ z : Later wr, w' = z.val)) := fun y => later_call (HC.out.tells y.val (only_trans_below hwj y.property) x s hxD hsD)
          clear hs hsD hxD
          have hNb : N ≤ 1000 := by have := HN.out; omega
          have jz : (p : Int) + 1 < (N : Int) := by omega
          have jz1 : (p : Int) < (N : Int) := by omega
          have hwp : IntKind.i64.wrap (p : Int) = (p : Int) := by rw [IntKind.wrap_i64]; omega
          have p0 : (0 : Int) ≤ (p : Int) + 1 := by omega
          have e0 : ((p : Int) + 1).toNat = p + 1 := by omega
          have hb4 : decide ((p : Int) + 1 > (pre.length : Int)) = true := by simp; omega
          have hb5 : (pre.length : Int) < (p : Int) + 1 := by omega
          have hb7 : (pre.length : Int) ≤ (p : Int) := by omega
          have hb8 : pre.length ≤ p := by omega
          have hx := later_cell (w := wr)
          have ep : ((pre.length + (X0 ++ [s]).length : Nat) : Int) = (p : Int) + 1 := by rw [hp]; simp; omega
          rw [ep]
          have hqb : q ≤ 1000 := by omega
          have hlv' : ¬ cf x s < 0 → le s x := fun h => by
            by_cases h1 : le s x
            · exact h1
            · exact absurd (hag.out.2 h1) h
          have HLV := Lib.hid hlv'
          clear hlv'
          have HPp := Lib.hid hp
          have HQ := Lib.hid hq
          have HZ := Lib.hid hz
          clear hp hq hz ep
          by_cases hlv : cf x s < 0
          · have hb6 : decide (cf x s < 0) = true := by simpa using hlv
            go_wp2_with fail
            refine wp_region_later (by kernel_rfl) (by kernel_rfl) ?_
            repeat (go_big_quiet_step ((first | (go_at_fn g; exact (M.out _).out))))
            refine wpQuiet_nil ?_
            rintro w2 ⟨⟨_, hb2⟩, rfl⟩
            have hBj2 := hBj.later hb2
            have hwj2 := only_trans_below hwj hb2
            have cs2 : w2.cell? ⟨R, p, none⟩ = some (.int .i64 s) := hBj2.at_ (by rw [HPp.out]; exact (two_at _ _ _ _ _).1)
            have cx2 : w2.cell? ⟨R, p + 1, none⟩ = some (.int .i64 x) := hBj2.at_ (by rw [HPp.out]; exact (two_at _ _ _ _ _).2)
            have fs2 : w2.frozen? ⟨R, p, none⟩ = false := hBj2.frozen _
            have fx2 : w2.frozen? ⟨R, p + 1, none⟩ = false := hBj2.frozen _
            clear hx cs cx M
            obtain ⟨p1, hp1⟩ : ∃ p1, p1 = p + 1 := ⟨_, rfl⟩
            rw [← hp1] at cx2 fx2 e0
            have HP1 := Lib.hid hp1
            clear hp1
            go_wp2_with fail
            go_big_region
            all_goals go_wp2_with fail
            go_roundw
            case rel =>
              refine ⟨X0, s :: Y, ?_, ?_, ?_, ?_, ?_⟩
              · rw [HPp.out]
              · show _ = _
                rw [hC.out]; simp
              · have h1 : ¬ le s x := hag.out.1 hlv
                have h2 : le x s := (HT.out.total x s).resolve_right h1
                exact fun y hy => by
                  rcases List.mem_cons.1 hy with rfl | hy
                  · exact h2
                  · exact hY.out y hy
              · have h1 := (hBj2.set_ p1 s).set_ p x
                rw [HP1.out, HPp.out, two_swap] at h1
                rw [HP1.out, HPp.out]
                exact h1
              · exact only_setCell (only_setCell (only_drew hwj2) (.inl rfl) _) (.inl rfl) _
            case measure => simp [intOf]
          · have hb6 : decide (cf x s < 0) = false := by simpa using hlv
            go_wp2_with fail
            refine wp_region_later (by kernel_rfl) (by kernel_rfl) ?_
            repeat (go_big_quiet_step ((first | (go_at_fn g; exact (M.out _).out))))
            refine wpQuiet_nil ?_
            rintro w2 ⟨⟨_, hb2⟩, rfl⟩
            have hBj2 := hBj.later hb2
            go_wp2_with fail
            go_roundw
            case rel =>
              refine ⟨k + 1, (X0 ++ [s]) ++ x :: Y, by rw [HQ.out]; go_num, by omega, by omega, ins_perm HX.out hP.out hC.out, ?_, by simpa using hBj2, only_trans_below hwj hb2⟩
              have h0 := hS.out
              rw [hC.out] at h0
              have hle : le s x := HLV.out (by omega)
              exact ins_sorted h0 hY.out (all_before HT.out (List.pairwise_append.1 h0).1 hle)
            case measure => simp [intOf]; have := HQ.out; have := HZ.out; omega
    · have hbf : decide (((pre.length + k : Nat) : Int) < ((pre.length + S.length : Nat) : Int)) = false := by simp; omega
      have e1 : S.take k = S := List.take_of_length_le (by omega)
      have e2 : S.drop k = [] := List.drop_of_length_le (by omega)
      have E1 := Lib.hid e1
      rw [e2] at hBr
      clear e1 e2
      obtain ⟨q, hq⟩ : ∃ q, q = pre.length + k := ⟨_, rfl⟩
      obtain ⟨z, hz⟩ : ∃ z, z = pre.length + S.length := ⟨_, rfl⟩
      rw [← hq, ← hz] at hbf ⊢
      go_wp2_with fail
      go_end0
      exact ⟨rfl, C1, by rw [← E1.out]; exact hP.out, hS.out, by simpa using hBr, hwr⟩
end Go.Proofs.Ytnfcigbiebbjdaa
namespace Go.Proofs.Ytnfcigbiebbjdaa
open Go.RowKit

theorem two_at' (A B C : List Int) (x y : Int) : (A ++ (x :: (B ++ y :: C)))[A.length]? = some x ∧ (A ++ (x :: (B ++ y :: C)))[A.length + 1 + B.length]? = some y := by
  constructor
  · simp
  · rw [List.getElem?_append_right (by omega), show A.length + 1 + B.length - A.length = B.length + 1 by omega, List.getElem?_cons_succ, List.getElem?_append_right (Nat.le_refl _), Nat.sub_self]
    rfl
theorem two_swap' (A B C : List Int) (x y : Int) : ((A ++ (x :: (B ++ y :: C))).set A.length y).set (A.length + 1 + B.length) x = A ++ (y :: (B ++ x :: C)) := by
  rw [List.set_append_right _ _ (Nat.le_refl _), Nat.sub_self, List.set_cons_zero, List.set_append_right _ _ (by omega), show A.length + 1 + B.length - A.length = B.length + 1 by omega, List.set_cons_succ,
    List.set_append_right _ _ (Nat.le_refl _), Nat.sub_self, List.set_cons_zero]
/-- The row in the middle of an exchange. -/
def exch (P X M Y Q : List Int) (i : Nat) : List Int := P ++ (Y.take i ++ X.drop i) ++ M ++ (X.take i ++ Y.drop i) ++ Q
theorem exch_split {P X M Y Q : List Int} {i : Nat} {x y : Int} (hx : X[i]? = some x) (hy : Y[i]? = some y) :
    exch P X M Y Q i = (P ++ Y.take i) ++ (x :: ((X.drop (i + 1) ++ M ++ X.take i) ++ y :: (Y.drop (i + 1) ++ Q))) ∧
    exch P X M Y Q (i + 1) = (P ++ Y.take i) ++ (y :: ((X.drop (i + 1) ++ M ++ X.take i) ++ x :: (Y.drop (i + 1) ++ Q))) := by
  have h1 := (List.getElem?_eq_some_iff.1 hx)
  have h2 := (List.getElem?_eq_some_iff.1 hy)
  obtain ⟨l1, e1⟩ := h1
  obtain ⟨l2, e2⟩ := h2
  unfold exch
  constructor
  · rw [List.drop_eq_getElem_cons l1, List.drop_eq_getElem_cons l2, e1, e2]
    simp
  · rw [List.take_add_one, List.take_add_one, hx, hy]
    simp

set_option maxHeartbeats 2000000 in
theorem swapRange_any {w0 : World} {R : Nat} (P X M Y Q : List Int) (cap : Nat) (v : Value) (w : World) (hXY : X.length = Y.length) (hB : RowB w R (P ++ X ++ M ++ Y ++ Q)) (hw : w0.grownBy w (some R)) (a b n N : Nat)
    (ha : a = P.length) (hb : b = P.length + X.length + M.length) (hn : n = X.length) (hN : N = (P ++ X ++ M ++ Y ++ Q).length) (hl : N ≤ 1000) :
    Calls Try.prog 109 #[.slice (some ⟨R, 0, none⟩) N cap, .int .i64 a, .int .i64 b, .int .i64 n, v] w fun e w' =>
      e = .returned (.tuple #[]) ∧ RowB w' R (P ++ Y ++ M ++ X ++ Q) ∧ w0.grownBy w' (some R) := by
  have HN := Lib.hid hN
  have HA := Lib.hid ha
  have HBb := Lib.hid hb
  have Hn := Lib.hid hn
  have hlen := hN
  simp only [List.length_append] at hlen
  have hab : a ≤ 1000 ∧ b ≤ 1000 ∧ n ≤ 1000 := by omega
  obtain ⟨ha1, hb1, hn1⟩ := hab
  have HL := Lib.hid hlen
  clear hN ha hb hn hlen
  go_enter Try.func109, Try.ntmps109
  go_wp2_with fail
  go_loopw [10] (fun u wr => ∃ i : Nat, i ≤ n ∧ u = .int .i64 i ∧ RowB wr R (exch P X M Y Q i) ∧ w0.grownBy wr (some R)) (fun u _ => n - (intOf u).toNat)
  case atStart => exact ⟨0, Nat.zero_le _, rfl, by unfold exch; simpa using hB, hw⟩
  case round =>
    clear hB hw
    obtain ⟨i, hi, rfl, hB, hw⟩ := hrel
    by_cases hlt : i < n
    · have hbt : decide ((i : Int) < (n : Int)) = true := by simp; omega
      obtain ⟨x, hx⟩ : ∃ x, X[i]? = some x := ⟨_, List.getElem?_eq_getElem (by have := Hn.out; omega)⟩
      obtain ⟨y, hy⟩ : ∃ y, Y[i]? = some y := ⟨_, List.getElem?_eq_getElem (by have := Hn.out; omega)⟩
      obtain ⟨s1, s2⟩ := exch_split (P := P) (M := M) (Q := Q) hx hy
      rw [s1] at hB
      obtain ⟨p, hp⟩ : ∃ p, p = a + i := ⟨_, rfl⟩
      obtain ⟨r, hr⟩ : ∃ r, r = b + i := ⟨_, rfl⟩
      have e1 : p = (P ++ Y.take i).length := by rw [List.length_append, List.length_take, hp, HA.out]; have := Hn.out; omega
      have e2 : r = (P ++ Y.take i).length + 1 + (X.drop (i + 1) ++ M ++ X.take i).length := by
        rw [hr, ← e1, hp, HBb.out]; simp only [List.length_append, List.length_drop, List.length_take]; have := Hn.out; have := HA.out; omega
      have cx : wr.cell? ⟨R, p, none⟩ = some (.int .i64 x) := hB.at_ (by rw [e1]; exact (two_at' _ _ _ _ _).1)
      have cy : wr.cell? ⟨R, r, none⟩ = some (.int .i64 y) := hB.at_ (by rw [e2]; exact (two_at' _ _ _ _ _).2)
      have fx : wr.frozen? ⟨R, p, none⟩ = false := hB.frozen _
      have fy : wr.frozen? ⟨R, r, none⟩ = false := hB.frozen _
      have hne : p ≠ r := by omega
      have hpN : p < N ∧ r < N := by
        have := HL.out; have := Hn.out; have := HA.out; have := HBb.out
        omega
      obtain ⟨hpN, hrN⟩ := hpN
      have t1 : ((a : Int) + (i : Int)).toNat = p := by omega
      have t2 : ((b : Int) + (i : Int)).toNat = r := by omega
      have j1 : (a : Int) + (i : Int) < (N : Int) := by omega
      have j2 : (b : Int) + (i : Int) < (N : Int) := by omega
      have k1 : (0 : Int) ≤ (a : Int) + (i : Int) := by omega
      have k2 : (0 : Int) ≤ (b : Int) + (i : Int) := by omega
      have HS2 := Lib.hid s2
      have E1 := Lib.hid e1
      have E2 := Lib.hid e2
      clear s1 s2 e1 e2 hp hr hx hy
      go_wp2_with fail
      go_big_region
      all_goals go_wp2_with fail
      go_roundw
      case rel =>
        refine ⟨i + 1, by omega, by go_num, ?_, ?_⟩
        · have h1 := (hB.set_ p y).set_ r x
          rw [HS2.out]
          have h2 := two_swap' (P ++ Y.take i) (X.drop (i + 1) ++ M ++ X.take i) (Y.drop (i + 1) ++ Q) x y
          rw [← E2.out, ← E1.out] at h2
          rw [h2] at h1
          exact h1
        · exact only_setCell (only_setCell (only_drew hw) (.inl rfl) _) (.inl rfl) _
      case measure => simp [intOf]; omega
    · have hbf : decide ((i : Int) < (n : Int)) = false := by simp; omega
      have hin : i = n := by omega
      subst hin
      have e : exch P X M Y Q i = P ++ Y ++ M ++ X ++ Q := by
        have := Hn.out
        unfold exch
        rw [List.take_of_length_le (by omega), List.take_of_length_le (by omega), List.drop_of_length_le (by omega), List.drop_of_length_le (by omega)]
        simp
      rw [e] at hB
      clear e
      go_wp2_with fail
      go_end0
      exact ⟨rfl, hB, hw⟩
end Go.Proofs.Ytnfcigbiebbjdaa
namespace Go.Proofs.Ytnfcigbiebbjdaa
open Go.RowKit

set_option maxHeartbeats 2000000 in
theorem rotate_any {w0 : World} {R : Nat} (P A B Q : List Int) (cap : Nat) (v : Value) (w : World) (hB : RowB w R (P ++ A ++ B ++ Q)) (hw : w0.grownBy w (some R)) (a m b N : Nat)
    (ha : a = P.length) (hm : m = P.length + A.length) (hb : b = P.length + A.length + B.length) (hN : N = (P ++ A ++ B ++ Q).length) (hl : N ≤ 1000) (hA0 : 0 < A.length) (hB0 : 0 < B.length) :
    Calls Try.prog 97 #[.slice (some ⟨R, 0, none⟩) N cap, .int .i64 a, .int .i64 m, .int .i64 b, v] w fun e w' =>
      e = .returned (.tuple #[]) ∧ RowB w' R (P ++ B ++ A ++ Q) ∧ w0.grownBy w' (some R) := by
  have hlen := hN
  simp only [List.length_append] at hlen
  have hab : a ≤ 1000 ∧ m ≤ 1000 ∧ b ≤ 1000 := by omega
  obtain ⟨ha1, hm1, hb1⟩ := hab
  have q1 : (m : Int) - (a : Int) = (A.length : Nat) := by omega
  have q2 : (b : Int) - (m : Int) = (B.length : Nat) := by omega
  have HM := Lib.hid hm
  have HL := Lib.hid hlen
  clear hN ha hb hm hlen
  obtain ⟨i0, hi0⟩ : ∃ i0, i0 = A.length := ⟨_, rfl⟩
  obtain ⟨j0, hj0⟩ : ∃ j0, j0 = B.length := ⟨_, rfl⟩
  rw [← hi0] at q1
  rw [← hj0] at q2
  have HI0 := Lib.hid hi0
  have HJ0 := Lib.hid hj0
  have hij : i0 ≤ 1000 ∧ j0 ≤ 1000 := by have := HL.out; omega
  obtain ⟨hi1, hj1⟩ := hij
  clear hi0 hj0
  go_enter Try.func97, Try.ntmps97
  go_wp2_with fail
  go_loopw [10, 11] (fun u t wr => ∃ (i j : Nat) (U A' B' V : List Int), u = .int .i64 i ∧ t = .int .i64 j ∧ 0 < i ∧ 0 < j ∧ i ≤ m ∧ m + j ≤ N ∧ Hid (A'.length = i ∧ B'.length = j ∧ P.length + U.length + i = m ∧ U ++ B' ++ A' ++ V = B ++ A ∧ N = (P ++ U ++ A' ++ B' ++ (V ++ Q)).length) ∧
      RowB wr R (P ++ U ++ A' ++ B' ++ (V ++ Q)) ∧ w0.grownBy wr (some R)) (fun u t _ => (intOf u).toNat + (intOf t).toNat)
  case atStart =>
    have h1 := HI0.out
    have h2 := HJ0.out
    have h3 := HM.out
    have h4 := HL.out
    refine ⟨i0, j0, [], A, B, [], rfl, rfl, by omega, by omega, by omega, by omega, ⟨h1.symm, h2.symm, by simp; omega, by simp, ?_⟩, by simpa using hB, hw⟩
    simp only [List.length_append, List.length_nil]
    omega
  case round =>
    clear hB hw
    obtain ⟨i, j, U, A', B', V, rfl, rfl, hi, hj, him, hjN, hH, hB, hw⟩ := hrel
    by_cases hne : i = j
    · subst hne
      have hbf : ((i : Int) != (i : Int)) = false := by simp
      obtain ⟨g1, g2, g3, g4, g5⟩ := hH.out
      have q3 : (m : Int) - (i : Int) = (m - i : Nat) := by omega
      have M := fun W (hB : RowB W R (P ++ U ++ A' ++ [] ++ B' ++ (V ++ Q))) hW => Lib.hid (swapRange_any (w0 := w0) (P ++ U) A' [] B' (V ++ Q) cap v W (by omega) hB hW (m - i) m i N (by simp; omega) (by simp; omega) g1.symm (by rw [g5]; simp) hl)
      have M2 := Lib.hid (M wr (by simpa using hB) hw)
      clear M g1 g2 g3 g4 g5
      obtain ⟨k, hk⟩ : ∃ k, k = m - i := ⟨_, rfl⟩
      rw [← hk] at M2 q3
      have HK := Lib.hid hk
      clear hk
      go_wp2_with fail
      refine M2.out.out.mono ?_
      rintro e w2 ⟨rfl, hB2, hw2⟩
      go_wp2_with fail
      go_end0
      refine ⟨rfl, ?_, hw2⟩
      have g4 := hH.out.2.2.2.1
      have e : P ++ U ++ B' ++ [] ++ A' ++ (V ++ Q) = P ++ (U ++ B' ++ A' ++ V) ++ Q := by simp
      rw [e, g4] at hB2
      simpa using hB2
    · have hbt : ((i : Int) != (j : Int)) = true := by simp; omega
      by_cases hgt : j < i
      · have hbg : decide ((i : Int) > (j : Int)) = true := by simp; omega
        have hbg2 : (j : Int) < (i : Int) := by omega
        obtain ⟨g1, g2, g3, g4, g5⟩ := hH.out
        have q3 : (m : Int) - (i : Int) = (m - i : Nat) := by omega
        have q4 : (i : Int) - (j : Int) = (i - j : Nat) := by omega
        have eA : A' = A'.take j ++ A'.drop j := (List.take_append_drop j A').symm
        have l1 : (A'.take j).length = j := by rw [List.length_take]; omega
        have l2 : (A'.drop j).length = i - j := by rw [List.length_drop]; omega
        have G4 := Lib.hid g4
        clear g4
        generalize A'.take j = A1 at *
        generalize A'.drop j = A2 at *
        subst eA
        have hB' : RowB wr R (P ++ U ++ A1 ++ A2 ++ B' ++ (V ++ Q)) := by simpa using hB
        have M2 := Lib.hid (swapRange_any (w0 := w0) (P ++ U) A1 A2 B' (V ++ Q) cap v wr (by omega) hB' hw (m - i) m j N (by simp; omega) (by simp; omega) l1.symm (by rw [g5]; simp) hl)
        obtain ⟨k, hk⟩ : ∃ k, k = m - i := ⟨_, rfl⟩
        obtain ⟨d, hd⟩ : ∃ d, d = i - j := ⟨_, rfl⟩
        rw [← hk] at M2 q3
        rw [← hd] at q4 l2
        have hk1 : k ≤ 1000 := by omega
        have hd1 : 0 < d ∧ d ≤ m := by omega
        obtain ⟨hd0, hd1⟩ := hd1
        have HH : Hid (A2.length = d ∧ A1.length = j ∧ P.length + (U ++ B').length + d = m ∧ (U ++ B') ++ A1 ++ A2 ++ V = B ++ A ∧ N = (P ++ (U ++ B') ++ A2 ++ A1 ++ (V ++ Q)).length) := by
          refine ⟨l2, l1, by rw [List.length_append]; omega, by rw [← G4.out]; simp, ?_⟩
          simp only [List.length_append] at g5 ⊢
          omega
        clear g1 g2 g3 g5 hk l1 l2 hB hB' hH G4
        have HD := Lib.hid hd
        clear hd
        go_wp2_with fail
        refine M2.out.mono ?_
        rintro e w2 ⟨rfl, hB2, hw2⟩
        go_wp2_with fail
        go_roundw
        case rel => exact ⟨d, j, U ++ B', A2, A1, V, rfl, rfl, hd0, hj, hd1, hjN, HH, by simpa using hB2, hw2⟩
        case measure => have := HD.out; simp [intOf]; omega
      · have hbg : decide ((i : Int) > (j : Int)) = false := by simp; omega
        have hbg2 : ¬ (j : Int) < (i : Int) := by omega
        obtain ⟨g1, g2, g3, g4, g5⟩ := hH.out
        have q3 : (m : Int) - (i : Int) = (m - i : Nat) := by omega
        have q4 : (j : Int) - (i : Int) = (j - i : Nat) := by omega
        have q5 : (m : Int) + (j : Int) - (i : Int) = (m + j - i : Nat) := by omega
        have eA : B' = B'.take (j - i) ++ B'.drop (j - i) := (List.take_append_drop (j - i) B').symm
        have l1 : (B'.take (j - i)).length = j - i := by rw [List.length_take]; omega
        have l2 : (B'.drop (j - i)).length = i := by rw [List.length_drop]; omega
        have G4 := Lib.hid g4
        clear g4
        generalize B'.take (j - i) = B1 at *
        generalize B'.drop (j - i) = B2 at *
        subst eA
        have hB' : RowB wr R (P ++ U ++ A' ++ B1 ++ B2 ++ (V ++ Q)) := by simpa using hB
        have M2 := Lib.hid (swapRange_any (w0 := w0) (P ++ U) A' B1 B2 (V ++ Q) cap v wr (by omega) hB' hw (m - i) (m + j - i) i N (by simp; omega) (by simp; omega) g1.symm (by rw [g5]; simp) hl)
        obtain ⟨k, hk⟩ : ∃ k, k = m - i := ⟨_, rfl⟩
        obtain ⟨d, hd⟩ : ∃ d, d = j - i := ⟨_, rfl⟩
        obtain ⟨r, hr⟩ : ∃ r, r = m + j - i := ⟨_, rfl⟩
        rw [← hk, ← hr] at M2
        rw [← hk] at q3
        rw [← hd] at q4 l1
        rw [← hr] at q5
        have hk1 : k ≤ 1000 := by omega
        have hr1 : r ≤ 1000 := by omega
        have hd1 : 0 < d ∧ m + d ≤ N := by omega
        obtain ⟨hd0, hd1⟩ := hd1
        have HH : Hid (B2.length = i ∧ B1.length = d ∧ P.length + U.length + i = m ∧ U ++ B1 ++ B2 ++ (A' ++ V) = B ++ A ∧ N = (P ++ U ++ B2 ++ B1 ++ ((A' ++ V) ++ Q)).length) := by
          refine ⟨l2, l1, g3, by rw [← G4.out]; simp, ?_⟩
          simp only [List.length_append] at g5 ⊢
          omega
        clear g1 g2 g3 g5 hk hr l1 l2 hB hB' hH G4
        have HD := Lib.hid hd
        clear hd
        go_wp2_with fail
        refine M2.out.mono ?_
        rintro e w2 ⟨rfl, hB2, hw2⟩
        go_wp2_with fail
        go_roundw
        case rel => exact ⟨i, d, U, B2, B1, A' ++ V, rfl, rfl, hi, hd0, him, hd1, HH, by simpa using hB2, hw2⟩
        case measure => have := HD.out; simp [intOf]; omega
end Go.Proofs.Ytnfcigbiebbjdaa
namespace Go.Proofs.Ytnfcigbiebbjdaa
open Go.RowKit

theorem row_mid {P B Q : List Int} {x y : Int} {t : Nat} (hy : B[t]? = some y) : (P ++ (x :: B) ++ Q)[P.length]? = some x ∧ (P ++ (x :: B) ++ Q)[P.length + 1 + t]? = some y := by
  have ht := (List.getElem?_eq_some_iff.1 hy).1
  rw [List.append_assoc, List.cons_append]
  refine ⟨at_mid _ _ _, ?_⟩
  rw [List.getElem?_append_right (by omega), show P.length + 1 + t - P.length = t + 1 by omega, List.getElem?_cons_succ, List.getElem?_append_left ht]
  exact hy
/-- Where x comes into a sorted list. -/
def Cut (p : Int → Prop) (B : List Int) (lo hi : Nat) : Prop := lo ≤ hi ∧ hi ≤ B.length ∧ (∀ t y, t < lo → B[t]? = some y → p y) ∧ ∀ t y, hi ≤ t → B[t]? = some y → ¬ p y

theorem Cut.low {p : Int → Prop} {B : List Int} {lo hi t : Nat} {y : Int} (h : Cut p B lo hi) (ht2 : t < hi) (hp : p y) (hm : ∀ s z, s ≤ t → B[s]? = some z → p y → p z) : Cut p B (t + 1) hi :=
  ⟨by omega, h.2.1, fun s z hs hz => hm s z (by omega) hz hp, h.2.2.2⟩
theorem Cut.high {p : Int → Prop} {B : List Int} {lo hi t : Nat} {y : Int} (h : Cut p B lo hi) (ht : lo ≤ t) (ht2 : t < hi) (hp : ¬ p y) (hm : ∀ s z, t ≤ s → B[s]? = some z → p z → p y) : Cut p B lo t :=
  ⟨ht, by have := h.2.1; omega, h.2.2.1, fun s z hs hz hp' => hp (hm s z hs hz hp')⟩
theorem sorted_at {le : Int → Int → Prop} (T : TotLe le) {B : List Int} (h : B.Pairwise le) {s t : Nat} {y z : Int} (hst : s ≤ t) (hz : B[s]? = some z) (hy : B[t]? = some y) : le z y := by
  rcases Nat.lt_or_eq_of_le hst with h1 | rfl
  · have l1 := (List.getElem?_eq_some_iff.1 hz)
    have l2 := (List.getElem?_eq_some_iff.1 hy)
    obtain ⟨a1, e1⟩ := l1
    obtain ⟨a2, e2⟩ := l2
    have := List.pairwise_iff_getElem.1 h s t a1 a2 h1
    rwa [e1, e2] at this
  · rw [hz] at hy
    obtain rfl : z = y := by simpa using hy
    exact (T.total z z).elim id id

set_option maxRecDepth 100000 in
set_option maxHeartbeats 4000000 in
theorem merge_left {g : Nat} {cb : Array Value} {cf : Int → Int → Int} {w0 : World} {R : Nat} {D : Int → Prop} (C : Cmp g cb cf w0 R D) {le : Int → Int → Prop} (T : TotLe le)
    (P B Q : List Int) (x : Int) (cap : Nat) (w : World) (hD : D x ∧ ∀ y ∈ B, D y) (hX : ∀ y ∈ B, Agrees cf le x y) (sB : B.Pairwise le) (hB : RowB w R (P ++ (x :: B) ++ Q)) (hw : w0.grownBy w (some R)) (a m b N : Nat)
    (ha : a = P.length) (hm : m = P.length + 1) (hb : b = P.length + 1 + B.length) (hN : N = (P ++ (x :: B) ++ Q).length) (hl : N ≤ 1000) :
    Calls Try.prog 92 #[.slice (some ⟨R, 0, none⟩) N cap, .int .i64 a, .int .i64 m, .int .i64 b, .func (.func g) #[] cb] w fun e w' =>
      e = .returned (.tuple #[]) ∧ ∃ C', C'.Perm (x :: B) ∧ C'.Pairwise le ∧ RowB w' R (P ++ C' ++ Q) ∧ w0.grownBy w' (some R) := by
  have eg := C.enters
  have HC := Lib.hid C
  have HT := Lib.hid T
  have HX := Lib.hid hX
  have HD := Lib.hid hD
  have HS := Lib.hid sB
  clear C T hX hD sB
  have hlen := hN
  simp only [List.length_append, List.length_cons] at hlen
  have hab : a ≤ 1000 ∧ m ≤ 1000 ∧ b ≤ 1000 ∧ b ≤ N := by omega
  obtain ⟨ha1, hm1, hb1, hbN⟩ := hab
  have q1 : (m : Int) - (a : Int) = 1 := by omega
  have HL := Lib.hid (show m = a + 1 ∧ a = P.length ∧ b = m + B.length ∧ N = a + 1 + B.length + Q.length by omega)
  clear hN ha hb hm hlen
  go_enter Try.func92, Try.ntmps92
  go_wp2_with fail
  go_loopw [10, 11] (fun u t wr => ∃ (lo hi : Nat), u = .int .i64 (m + lo : Nat) ∧ t = .int .i64 (m + hi : Nat) ∧ Hid (Cut (fun y => ¬ le x y) B lo hi) ∧ RowB wr R (P ++ (x :: B) ++ Q) ∧ w0.grownBy wr (some R)) (fun u t _ => (intOf t).toNat - (intOf u).toNat)
  case atStart =>
    have := HL.out
    exact ⟨0, B.length, by rw [Nat.add_zero], by congr 1; omega, ⟨Nat.zero_le _, Nat.le_refl _, fun t y h => by omega, fun t y h hy => by have := (List.getElem?_eq_some_iff.1 hy).1; omega⟩, hB, hw⟩
  case round =>
    clear hB hw
    obtain ⟨lo, hi, rfl, rfl, hC, hB, hw⟩ := hrel
    by_cases hlt : lo < hi
    · obtain ⟨i, hi'⟩ : ∃ i, i = m + lo := ⟨_, rfl⟩
      obtain ⟨j, hj'⟩ : ∃ j, j = m + hi := ⟨_, rfl⟩
      rw [← hi', ← hj']
      have hij : i < j := by omega
      have hj1 : j ≤ 1000 := by have := hC.out.2.1; have := HL.out; omega
      have hbt : decide ((i : Int) < (j : Int)) = true := by simp; omega
      have hbt2 : (i : Int) < (j : Int) := by omega
      have HI := Lib.hid hi'
      have HJ := Lib.hid hj'
      clear hi' hj'
      obtain ⟨t, ht⟩ : ∃ t, t = (lo + hi) / 2 := ⟨_, rfl⟩
      obtain ⟨h, hh⟩ : ∃ h, h = m + t := ⟨_, rfl⟩
      have q3 : ((i : Int) + (j : Int)) / 2 = (h : Int) := by have := HI.out; have := HJ.out; omega
      have ht1 : lo ≤ t ∧ t < hi := by omega
      have htB : t < B.length := by have := hC.out.2.1; omega
      obtain ⟨y, hy⟩ : ∃ y, B[t]? = some y := ⟨_, List.getElem?_eq_getElem htB⟩
      have cx : wr.cell? ⟨R, a, none⟩ = some (.int .i64 x) := hB.at_ (by rw [HL.out.2.1]; exact (row_mid hy).1)
      have cy : wr.cell? ⟨R, h, none⟩ = some (.int .i64 y) := hB.at_ (by
        have e : h = P.length + 1 + t := by have := HL.out; omega
        rw [e]; exact (row_mid hy).2)
      have lR := hB.lt
      have hh1 : h < N := by have := HL.out; omega
      have haN : a < N := by have := HL.out; omega
      have hyB : y ∈ B := List.mem_of_getElem? hy
      have hag := Lib.hid (HX.out y hyB)
      have M : Hid (∀ z : Later wr, Hid (Calls Try.prog g (#[.int .i64 y, .int .i64 x] ++ cb) z.val fun e w' => e = .returned (.int .i64 (cf y x)) ∧ ∃ z2 : Later wr, w' = z2.val)) := fun z => later_call (HC.out.tells z.val (only_trans_below hw z.property) y x (HD.out.2 y hyB) HD.out.1)
      have hx := later_cell (w := wr)
      have HH := Lib.hid hh
      have HTt := Lib.hid ht
      have HY := Lib.hid hy
      clear hh ht hy hyB
      by_cases hlv : cf y x < 0
      · have hb6 : decide (cf y x < 0) = true := by simpa using hlv
        have NL := Lib.hid (hag.out.1 hlv)
        go_wp2_with fail
        refine wp_region_later (by kernel_rfl) (by kernel_rfl) ?_
        repeat (go_big_quiet_step ((first | (go_at_fn g; exact (M.out _).out))))
        refine wpQuiet_nil ?_
        rintro w2 ⟨⟨_, hb2⟩, rfl⟩
        have hB2 := hB.later hb2
        go_wp2_with fail
        go_roundw
        case rel =>
          refine ⟨t + 1, hi, by rw [HH.out]; go_num, by rw [HJ.out], hC.out.low ht1.2 NL.out ?_, hB2, only_trans_below hw hb2⟩
          exact fun s z hs hz hp hl => hp (HT.out.trans x z y hl (sorted_at HT.out HS.out hs hz HY.out))
        case measure => have := HI.out; have := HJ.out; have := HH.out; simp [intOf]; omega
      · have hb6 : decide (cf y x < 0) = false := by simpa using hlv
        have NL : Hid (¬ ¬ le x y) := fun h => hlv (hag.out.2 h)
        go_wp2_with fail
        refine wp_region_later (by kernel_rfl) (by kernel_rfl) ?_
        repeat (go_big_quiet_step ((first | (go_at_fn g; exact (M.out _).out))))
        refine wpQuiet_nil ?_
        rintro w2 ⟨⟨_, hb2⟩, rfl⟩
        have hB2 := hB.later hb2
        go_wp2_with fail
        go_roundw
        case rel =>
          refine ⟨lo, t, by rw [HI.out], by rw [HH.out], hC.out.high ht1.1 ht1.2 NL.out ?_, hB2, only_trans_below hw hb2⟩
          exact fun s z hs hz hp hl => hp (HT.out.trans x y z hl (sorted_at HT.out HS.out hs HY.out hz))
        case measure => have := HI.out; have := HJ.out; have := HH.out; simp [intOf]; omega
    · obtain rfl : lo = hi := by have := hC.out.1; omega
      have hlB : lo ≤ B.length := hC.out.2.1
      obtain ⟨i, hi'⟩ : ∃ i, i = m + lo := ⟨_, rfl⟩
      rw [← hi']
      have hbt : decide ((i : Int) < (i : Int)) = false := by simp
      have hi1 : i ≤ 1000 := by have := HL.out; omega
      have q3 : (i : Int) - 1 = ((a + lo : Nat) : Int) := by have := HL.out; omega
      obtain ⟨z, hz⟩ : ∃ z, z = a + lo := ⟨_, rfl⟩
      rw [← hz] at q3
      have hz1 : z < N := by have := HL.out; omega
      have hNb : N ≤ 1000 := hl
      have HZ := Lib.hid hz
      have HI := Lib.hid hi'
      clear hz hi'
      go_wp2_with fail
      go_loopw [13] (fun u wr => ∃ t : Nat, t ≤ lo ∧ u = .int .i64 (a + t : Nat) ∧ RowB wr R ((P ++ B.take t) ++ x :: (B.drop t ++ Q)) ∧ w0.grownBy wr (some R)) (fun u _ => z - (intOf u).toNat)
      case atStart => exact ⟨0, Nat.zero_le _, by rw [Nat.add_zero], by simpa using hB, hw⟩
      case round =>
        clear hB hw
        obtain ⟨t, ht, rfl, hB, hw⟩ := hrel
        obtain ⟨k, hk⟩ : ∃ k, k = a + t := ⟨_, rfl⟩
        rw [← hk]
        by_cases hlt : t < lo
        · have hbt : decide ((k : Int) < (z : Int)) = true := by have := HZ.out; simp; omega
          have hkz : (k : Int) < (z : Int) := by have := HZ.out; omega
          obtain ⟨y, hy⟩ : ∃ y, B[t]? = some y := ⟨_, List.getElem?_eq_getElem (by omega)⟩
          have hd : B.drop t = y :: B.drop (t + 1) := by rw [List.drop_eq_getElem_cons (by omega), (List.getElem?_eq_some_iff.1 hy).2]
          have htk : B.take (t + 1) = B.take t ++ [y] := by rw [List.take_add_one, hy]; rfl
          rw [hd] at hB
          have e1 : k = (P ++ B.take t).length := by rw [List.length_append, List.length_take]; have := HL.out; omega
          have cx : wr.cell? ⟨R, k, none⟩ = some (.int .i64 x) := hB.at_ (by rw [e1]; exact at_mid _ _ _)
          have cy : wr.cell? ⟨R, k + 1, none⟩ = some (.int .i64 y) := hB.at_ (by rw [e1]; exact at_mid1 _ _ _ _)
          have fx : wr.frozen? ⟨R, k, none⟩ = false := hB.frozen _
          have fy : wr.frozen? ⟨R, k + 1, none⟩ = false := hB.frozen _
          obtain ⟨k1, hk1⟩ : ∃ k1, k1 = k + 1 := ⟨_, rfl⟩
          have t1 : ((k : Int) + 1).toNat = k1 := by omega
          rw [← hk1] at cy fy
          have hne : k ≠ k1 := by omega
          have j1 : (k : Int) + 1 < (N : Int) := by omega
          have j2 : (k : Int) < (N : Int) := by omega
          have k2 : (0 : Int) ≤ (k : Int) + 1 := by omega
          have h1 := (hB.set_ k y).set_ k1 x
          have h2 := swap_next (P ++ B.take t) (B.drop (t + 1) ++ Q) x y
          rw [← e1, ← hk1] at h2
          rw [List.cons_append, h2] at h1
          have h3 : (P ++ B.take t) ++ y :: x :: (B.drop (t + 1) ++ Q) = (P ++ B.take (t + 1)) ++ x :: (B.drop (t + 1) ++ Q) := by rw [htk]; simp
          rw [h3] at h1
          have H1 := Lib.hid h1
          have HK := Lib.hid hk
          clear h1 h2 h3 hd htk e1 hk hk1 hy
          go_wp2_with fail
          go_big_region
          all_goals go_wp2_with fail
          go_roundw
          case rel =>
            refine ⟨t + 1, by omega, by rw [HK.out]; go_num, H1.out, ?_⟩
            exact only_setCell (only_setCell (only_drew hw) (.inl rfl) _) (.inl rfl) _
          case measure => simp [intOf]; omega
        · obtain rfl : t = lo := by omega
          have hkz : k = z := by have := HZ.out; omega
          subst hkz
          have hbt : decide ((k : Int) < (k : Int)) = false := by simp
          clear hk
          go_wp2_with fail
          (try simp only [Exit.inBlock, Exit.then]); refine bodyPost_ret (results_none rfl _ _ _) rfl ?_
          have h1 := hC.out
          have hBe : B = B.take t ++ B.drop t := (List.take_append_drop t B).symm
          refine ⟨rfl, B.take t ++ x :: B.drop t, ?_, ?_, by simpa using hB, hw⟩
          · exact List.perm_middle.trans (by rw [← hBe])
          · refine ins_sorted (by rw [← hBe]; exact HS.out) (fun s hs => ?_) (fun s hs => ?_)
            · obtain ⟨n, hn⟩ := List.getElem?_of_mem hs
              rw [List.getElem?_drop] at hn
              have := h1.2.2.2 (t + n) s (by omega) hn
              by_cases h : le x s
              · exact h
              · exact absurd h this
            · obtain ⟨n, hn⟩ := List.getElem?_of_mem hs
              rw [List.getElem?_take] at hn
              split at hn
              · rename_i hlt2
                have := h1.2.2.1 n s hlt2 hn
                exact (HT.out.total s x).resolve_right this
              · simp at hn
end Go.Proofs.Ytnfcigbiebbjdaa
namespace Go.Proofs.Ytnfcigbiebbjdaa
open Go.RowKit

set_option maxRecDepth 100000 in
set_option maxHeartbeats 4000000 in
theorem merge_right {g : Nat} {cb : Array Value} {cf : Int → Int → Int} {w0 : World} {R : Nat} {D : Int → Prop} (C : Cmp g cb cf w0 R D) {le : Int → Int → Prop} (T : TotLe le)
    (P A Q : List Int) (y : Int) (cap : Nat) (w : World) (hD : D y ∧ ∀ x ∈ A, D x) (hX : ∀ x ∈ A, Agrees cf le x y) (sA : A.Pairwise le) (hA2 : 2 ≤ A.length) (hB : RowB w R (P ++ A ++ y :: Q)) (hw : w0.grownBy w (some R)) (a m b N : Nat)
    (ha : a = P.length) (hm : m = P.length + A.length) (hb : b = P.length + A.length + 1) (hN : N = (P ++ A ++ y :: Q).length) (hl : N ≤ 1000) :
    Calls Try.prog 92 #[.slice (some ⟨R, 0, none⟩) N cap, .int .i64 a, .int .i64 m, .int .i64 b, .func (.func g) #[] cb] w fun e w' =>
      e = .returned (.tuple #[]) ∧ ∃ C', C'.Perm (A ++ [y]) ∧ C'.Pairwise le ∧ RowB w' R (P ++ C' ++ Q) ∧ w0.grownBy w' (some R) := by
  have eg := C.enters
  have HC := Lib.hid C
  have HT := Lib.hid T
  have HX := Lib.hid hX
  have HD := Lib.hid hD
  have HS := Lib.hid sA
  clear C T hX hD sA
  have hlen := hN
  simp only [List.length_append, List.length_cons] at hlen
  have hab : a ≤ 1000 ∧ m ≤ 1000 ∧ b ≤ 1000 ∧ b ≤ N := by omega
  obtain ⟨ha1, hm1, hb1, hbN⟩ := hab
  obtain ⟨nA, hnA⟩ : ∃ nA, nA = A.length := ⟨_, rfl⟩
  have q1 : (m : Int) - (a : Int) = (nA : Int) := by omega
  have q0 : ((nA : Int) == 1) = false := by simp; omega
  have q2 : (b : Int) - (m : Int) = 1 := by omega
  have HL := Lib.hid (show m = a + A.length ∧ a = P.length ∧ b = m + 1 ∧ N = a + A.length + 1 + Q.length by omega)
  have HNA := Lib.hid hnA
  clear hnA
  clear hN ha hb hm hlen
  go_enter Try.func92, Try.ntmps92
  go_wp2_with fail
  go_loopw [14, 15] (fun u t wr => ∃ (lo hi : Nat), u = .int .i64 (a + lo : Nat) ∧ t = .int .i64 (a + hi : Nat) ∧ Hid (Cut (fun x => le x y) A lo hi) ∧ RowB wr R (P ++ A ++ y :: Q) ∧ w0.grownBy wr (some R)) (fun u t _ => (intOf t).toNat - (intOf u).toNat)
  case atStart =>
    have := HL.out
    exact ⟨0, A.length, by rw [Nat.add_zero], by congr 1; omega, ⟨Nat.zero_le _, Nat.le_refl _, fun t y h => by omega, fun t y h hy => by have := (List.getElem?_eq_some_iff.1 hy).1; omega⟩, hB, hw⟩
  case round =>
    clear hB hw
    obtain ⟨lo, hi, rfl, rfl, hC, hB, hw⟩ := hrel
    by_cases hlt : lo < hi
    · obtain ⟨i, hi'⟩ : ∃ i, i = a + lo := ⟨_, rfl⟩
      obtain ⟨j, hj'⟩ : ∃ j, j = a + hi := ⟨_, rfl⟩
      rw [← hi', ← hj']
      have hij : i < j := by omega
      have hj1 : j ≤ 1000 := by have := hC.out.2.1; have := HL.out; omega
      have hbt : decide ((i : Int) < (j : Int)) = true := by simp; omega
      have hbt2 : (i : Int) < (j : Int) := by omega
      have HI := Lib.hid hi'
      have HJ := Lib.hid hj'
      clear hi' hj'
      obtain ⟨t, ht⟩ : ∃ t, t = (lo + hi) / 2 := ⟨_, rfl⟩
      obtain ⟨h, hh⟩ : ∃ h, h = a + t := ⟨_, rfl⟩
      have q3 : ((i : Int) + (j : Int)) / 2 = (h : Int) := by have := HI.out; have := HJ.out; omega
      have ht1 : lo ≤ t ∧ t < hi := by omega
      have htA : t < A.length := by have := hC.out.2.1; omega
      obtain ⟨x, hx⟩ : ∃ x, A[t]? = some x := ⟨_, List.getElem?_eq_getElem htA⟩
      have cx : wr.cell? ⟨R, h, none⟩ = some (.int .i64 x) := hB.at_ (by
        have e : h = P.length + t := by have := HL.out; omega
        rw [e, List.append_assoc, List.getElem?_append_right (by omega), show P.length + t - P.length = t by omega, List.getElem?_append_left htA]; exact hx)
      have cy : wr.cell? ⟨R, m, none⟩ = some (.int .i64 y) := hB.at_ (by
        have e : m = (P ++ A).length := by rw [List.length_append]; have := HL.out; omega
        rw [e]; exact at_mid _ _ _)
      have lR := hB.lt
      have hh1 : h < N := by have := HL.out; omega
      have hmN : m < N := by have := HL.out; omega
      have hxA : x ∈ A := List.mem_of_getElem? hx
      have hag := Lib.hid (HX.out x hxA)
      have M : Hid (∀ z : Later wr, Hid (Calls Try.prog g (#[.int .i64 y, .int .i64 x] ++ cb) z.val fun e w' => e = .returned (.int .i64 (cf y x)) ∧ ∃ z2 : Later wr, w' = z2.val)) := fun z => later_call (HC.out.tells z.val (only_trans_below hw z.property) y x HD.out.1 (HD.out.2 x hxA))
      have hxl := later_cell (w := wr)
      have HH := Lib.hid hh
      have HTt := Lib.hid ht
      have HXx := Lib.hid hx
      clear hh ht hx hxA
      by_cases hlv : cf y x < 0
      · have hb6 : decide (cf y x < 0) = true := by simpa using hlv
        have NL := Lib.hid (hag.out.1 hlv)
        go_wp2_with fail
        refine wp_region_later (by kernel_rfl) (by kernel_rfl) ?_
        repeat (go_big_quiet_step ((first | (go_at_fn g; exact (M.out _).out))))
        refine wpQuiet_nil ?_
        rintro w2 ⟨⟨_, hb2⟩, rfl⟩
        have hB2 := hB.later hb2
        go_wp2_with fail
        go_roundw
        case rel =>
          refine ⟨lo, t, by rw [HI.out], by rw [HH.out], hC.out.high ht1.1 ht1.2 NL.out ?_, hB2, only_trans_below hw hb2⟩
          exact fun s z hs hz hp => HT.out.trans x z y (sorted_at HT.out HS.out hs HXx.out hz) hp
        case measure => have := HI.out; have := HJ.out; have := HH.out; simp [intOf]; omega
      · have hb6 : decide (cf y x < 0) = false := by simpa using hlv
        have NL : Hid (le x y) := by
          by_cases h : le x y
          · exact h
          · exact absurd (hag.out.2 h) hlv
        go_wp2_with fail
        refine wp_region_later (by kernel_rfl) (by kernel_rfl) ?_
        repeat (go_big_quiet_step ((first | (go_at_fn g; exact (M.out _).out))))
        refine wpQuiet_nil ?_
        rintro w2 ⟨⟨_, hb2⟩, rfl⟩
        have hB2 := hB.later hb2
        go_wp2_with fail
        go_roundw
        case rel =>
          refine ⟨t + 1, hi, by rw [HH.out]; go_num, by rw [HJ.out], hC.out.low ht1.2 NL.out ?_, hB2, only_trans_below hw hb2⟩
          exact fun s z hs hz hp => HT.out.trans z x y (sorted_at HT.out HS.out hs hz HXx.out) hp
        case measure => have := HI.out; have := HJ.out; have := HH.out; simp [intOf]; omega
    · obtain rfl : lo = hi := by have := hC.out.1; omega
      have hlA : lo ≤ A.length := hC.out.2.1
      obtain ⟨i, hi'⟩ : ∃ i, i = a + lo := ⟨_, rfl⟩
      rw [← hi']
      have hbt : decide ((i : Int) < (i : Int)) = false := by simp
      have hi1 : i ≤ 1000 := by have := HL.out; omega
      have hNb : N ≤ 1000 := hl
      have HI := Lib.hid hi'
      clear hi'
      go_wp2_with fail
      go_loopw [17] (fun u wr => ∃ t : Nat, lo ≤ t ∧ t ≤ nA ∧ u = .int .i64 (a + t : Nat) ∧ RowB wr R ((P ++ A.take t) ++ y :: (A.drop t ++ Q)) ∧ w0.grownBy wr (some R)) (fun u _ => (intOf u).toNat)
      case atStart =>
        have := HNA.out
        exact ⟨nA, by omega, Nat.le_refl _, by congr 1; have := HL.out; omega, by rw [this, List.take_length, List.drop_length]; simpa using hB, hw⟩
      case round =>
        clear hB hw
        obtain ⟨t, ht, htA, rfl, hB, hw⟩ := hrel
        by_cases hlt : lo < t
        · obtain ⟨t, rfl⟩ : ∃ s, t = s + 1 := ⟨t - 1, by omega⟩
          obtain ⟨p, hp⟩ : ∃ p, p = a + t := ⟨_, rfl⟩
          have ep : ((a + (t + 1) : Nat) : Int) = (p : Int) + 1 := by omega
          rw [ep]
          have hkz : (i : Int) < (p : Int) + 1 := by have := HI.out; omega
          have hkz2 : (i : Int) ≤ (p : Int) := by omega
          have hkz3 : i ≤ p := by omega
          obtain ⟨x, hx⟩ : ∃ x, A[t]? = some x := ⟨_, List.getElem?_eq_getElem (by have := HNA.out; omega)⟩
          have htk : A.take (t + 1) = A.take t ++ [x] := by rw [List.take_add_one, hx]; rfl
          have hd : A.drop t = x :: A.drop (t + 1) := by rw [List.drop_eq_getElem_cons (by have := HNA.out; omega), (List.getElem?_eq_some_iff.1 hx).2]
          rw [htk] at hB
          have e1 : p = (P ++ A.take t).length := by rw [List.length_append, List.length_take]; have := HL.out; have := HNA.out; omega
          have h0 : (P ++ (A.take t ++ [x])) ++ y :: (A.drop (t + 1) ++ Q) = (P ++ A.take t) ++ x :: y :: (A.drop (t + 1) ++ Q) := by simp
          rw [h0] at hB
          have cx : wr.cell? ⟨R, p, none⟩ = some (.int .i64 x) := hB.at_ (by rw [e1]; exact at_mid _ _ _)
          have cy : wr.cell? ⟨R, p + 1, none⟩ = some (.int .i64 y) := hB.at_ (by rw [e1]; exact at_mid1 _ _ _ _)
          have fx : wr.frozen? ⟨R, p, none⟩ = false := hB.frozen _
          have fy : wr.frozen? ⟨R, p + 1, none⟩ = false := hB.frozen _
          obtain ⟨p1, hp1⟩ : ∃ p1, p1 = p + 1 := ⟨_, rfl⟩
          have t1 : ((p : Int) + 1).toNat = p1 := by omega
          rw [← hp1] at cy fy
          have hne : p ≠ p1 := by omega
          have hpN : p + 1 < N := by have := HL.out; have := HNA.out; omega
          have j1 : (p : Int) + 1 < (N : Int) := by omega
          have j2 : (p : Int) < (N : Int) := by omega
          have k2 : (0 : Int) ≤ (p : Int) + 1 := by omega
          have hwp : IntKind.i64.wrap (p : Int) = (p : Int) := by rw [IntKind.wrap_i64]; omega
          have h1 := (hB.set_ p1 x).set_ p y
          have h2 := swap_next (P ++ A.take t) (A.drop (t + 1) ++ Q) x y
          rw [List.set_comm _ _ (by omega), ← e1, ← hp1] at h2
          rw [h2] at h1
          have h3 : (P ++ A.take t) ++ y :: x :: (A.drop (t + 1) ++ Q) = (P ++ A.take t) ++ y :: (A.drop t ++ Q) := by rw [hd]; simp
          rw [h3] at h1
          have H1 := Lib.hid h1
          have HP := Lib.hid hp
          clear h1 h2 h3 hd htk e1 hp hp1 hx h0 ep
          go_wp2_with fail
          go_big_region
          all_goals go_wp2_with fail
          go_roundw
          case rel =>
            refine ⟨t, by omega, by omega, by rw [HP.out], H1.out, ?_⟩
            exact only_setCell (only_setCell (only_drew hw) (.inl rfl) _) (.inl rfl) _
          case measure => simp [intOf]
        · obtain rfl : t = lo := by omega
          obtain ⟨k, hk⟩ : ∃ k, k = a + t := ⟨_, rfl⟩
          rw [← hk]
          have hkz : k = i := by have := HI.out; omega
          subst hkz
          have hbt : decide ((k : Int) < (k : Int)) = false := by simp
          clear hk
          go_wp2_with fail
          (try simp only [Exit.inBlock, Exit.then]); refine bodyPost_ret (results_none rfl _ _ _) rfl ?_
          have h1 := hC.out
          have hAe : A = A.take t ++ A.drop t := (List.take_append_drop t A).symm
          refine ⟨rfl, A.take t ++ y :: A.drop t, ?_, ?_, by simpa using hB, hw⟩
          · exact (List.perm_middle.trans (show (y :: (A.take t ++ A.drop t)).Perm ([y] ++ A) by rw [← hAe]; exact List.Perm.refl _)).trans (List.perm_append_comm (l₁ := [y]))
          · refine ins_sorted (by rw [← hAe]; exact HS.out) (fun s hs => ?_) (fun s hs => ?_)
            · obtain ⟨n, hn⟩ := List.getElem?_of_mem hs
              rw [List.getElem?_drop] at hn
              have := h1.2.2.2 (t + n) s (by omega) hn
              exact (HT.out.total s y).resolve_left this
            · obtain ⟨n, hn⟩ := List.getElem?_of_mem hs
              rw [List.getElem?_take] at hn
              split at hn
              · rename_i hlt2
                exact h1.2.2.1 n s hlt2 hn
              · simp at hn
end Go.Proofs.Ytnfcigbiebbjdaa
