/-
  The insertion of a stable sort: a part of a row is put in order; no other block is turned.
  Conditions: the comparison tells one thing in every world in which no other block has been turned, makes memory at most, and agrees with a total order on what came earlier and what came later.
-/
import Derived.Test.YtnfcigbiebbjdaaProg
import Derived.Test.YtnfcigbiebbjdaaInts
import Derived.Test.YtnfcigbiebbjdaaSortm
import Derived.BigRegion
import Derived.WalkKit
import Derived.Shelf.Abstract
namespace Go.Proofs.Ytnfcigbiebbjdaa
open Go.RowKit

/-- What is asked of a comparison: g is its function, cb what it has captured, R the row's block, D which numbers it is asked about. -/
structure Cmp (g : Nat) (cb : Array Value) (cf : Int → Int → Int) (w0 : World) (R : Nat) (D : Int → Prop) : Prop where
  enters : ∀ args w, (callFunc g args).run Try.prog w = .ok (.enter g args) w
  tells : ∀ W, w0.grownBy W (some R) → ∀ x y, D x → D y → Calls Try.prog g (#[.int .i64 x, .int .i64 y] ++ cb) W fun e w' => e = .returned (.int .i64 (cf x y)) ∧ Below W.heap.size W w'
/-- Earlier and later: the comparison agrees with the order. -/
def Agrees (cf : Int → Int → Int) (le : Int → Int → Prop) (x y : Int) : Prop := cf y x < 0 ↔ ¬ le x y

theorem ins_perm {S C1 X Y : List Int} {k : Nat} {x : Int} (hx : S[k]? = some x) (hP : C1.Perm (S.take k)) (hC : C1 = X ++ Y) : (X ++ x :: Y).Perm (S.take (k + 1)) := by
  rw [List.take_add_one, hx]
  subst hC
  show (X ++ x :: Y).Perm (S.take k ++ [x])
  exact (List.perm_middle.trans (List.Perm.cons x hP)).trans (List.perm_append_comm (l₁ := [x]))
theorem ins_agree {cf : Int → Int → Int} {le : Int → Int → Prop} {S C1 : List Int} {k : Nat} {x s : Int} (hA : S.Pairwise (Agrees cf le)) (hx : S[k]? = some x) (hP : C1.Perm (S.take k)) (hs : s ∈ C1) : Agrees cf le s x := by
  have h1 := hP.mem_iff.1 hs
  have hk := (List.getElem?_eq_some_iff.1 hx).1
  have e : S = S.take k ++ S.drop k := (List.take_append_drop k S).symm
  rw [e] at hA
  refine (List.pairwise_append.1 hA).2.2 s h1 x ?_
  rw [List.drop_eq_getElem_cons hk, (List.getElem?_eq_some_iff.1 hx).2]
  simp

theorem two_at (P X Z : List Int) (s x : Int) : (P ++ ((X ++ [s]) ++ x :: Z))[P.length + X.length]? = some s ∧ (P ++ ((X ++ [s]) ++ x :: Z))[P.length + X.length + 1]? = some x := by
  have e : P ++ ((X ++ [s]) ++ x :: Z) = (P ++ X) ++ s :: x :: Z := by simp
  rw [e, ← List.length_append]
  exact ⟨at_mid _ _ _, at_mid1 _ _ _ _⟩
theorem two_swap (P X Z : List Int) (s x : Int) : ((P ++ ((X ++ [s]) ++ x :: Z)).set (P.length + X.length + 1) s).set (P.length + X.length) x = P ++ (X ++ x :: s :: Z) := by
  have e : P ++ ((X ++ [s]) ++ x :: Z) = (P ++ X) ++ s :: x :: Z := by simp
  rw [e, ← List.length_append, List.set_comm _ _ (by omega), swap_next]
  simp

set_option maxHeartbeats 2000000 in
theorem insert_any {g : Nat} {cb : Array Value} {cf : Int → Int → Int} {w0 : World} {R : Nat} {D : Int → Prop} (C : Cmp g cb cf w0 R D) {le : Int → Int → Prop} (T : TotLe le)
    (pre S post : List Int) (cap : Nat) (w : World) (hD : ∀ x ∈ S, D x) (hA : S.Pairwise (Agrees cf le)) (hB : RowB w R (pre ++ (S ++ post))) (hw : w0.grownBy w (some R))
    (hl : (pre ++ (S ++ post)).length ≤ 1000) :
    Calls Try.prog 91 #[.slice (some ⟨R, 0, none⟩) (pre ++ (S ++ post)).length cap, .int .i64 pre.length, .int .i64 (pre.length + S.length : Nat), .func (.func g) #[] cb] w fun e w' =>
      e = .returned (.tuple #[]) ∧ ∃ S', S'.Perm S ∧ S'.Pairwise le ∧ RowB w' R (pre ++ (S' ++ post)) ∧ w0.grownBy w' (some R) := by
  have eg := C.enters
  have HC := Lib.hid C
  have HT := Lib.hid T
  have HA := Lib.hid hA
  have HD := Lib.hid hD
  clear C T hA hD
  simp only [List.length_append] at hl
  obtain ⟨N, hN⟩ : ∃ N, N = (pre ++ (S ++ post)).length := ⟨_, rfl⟩
  have hN' := hN
  simp only [List.length_append] at hN'
  rw [← hN]
  have HN := Lib.hid hN'
  clear hN hN'
  go_enter Try.func91, Try.ntmps91
  go_wp2_with fail
  go_loopw [8] (fun i wr => ∃ (k : Nat) (C1 : List Int), i = .int .i64 (pre.length + k : Nat) ∧ 1 ≤ k ∧ (k ≤ S.length ∨ S.length = 0) ∧ Hid (C1.Perm (S.take k)) ∧ Hid (C1.Pairwise le) ∧ RowB wr R (pre ++ (C1 ++ (S.drop k ++ post))) ∧ w0.grownBy wr (some R)) (fun i _ => pre.length + S.length - (intOf i).toNat)
  case atStart =>
    cases S with
    | nil => exact ⟨1, [], by go_num, Nat.le_refl _, .inr rfl, List.Perm.refl _, List.Pairwise.nil, by simpa using hB, hw⟩
    | cons s S => exact ⟨1, [s], by go_num, Nat.le_refl _, .inl (by simp), List.Perm.refl _, by simp [Lib.hid], by simpa using hB, hw⟩
  case round =>
    clear hB hw
    obtain ⟨k, C1, rfl, hk1, hkS, hP, hS, hBr, hwr⟩ := hrel
    by_cases hlt : k < S.length
    · obtain ⟨x, hx⟩ : ∃ x, S[k]? = some x := ⟨_, List.getElem?_eq_getElem hlt⟩
      have hdrop : S.drop k = x :: S.drop (k + 1) := by
        rw [List.drop_eq_getElem_cons hlt, (List.getElem?_eq_some_iff.1 hx).2]
      have hlen : C1.length = k := by rw [hP.out.length_eq, List.length_take]; omega
      rw [hdrop] at hBr
      have HX := Lib.hid hx
      clear hx hdrop
      obtain ⟨q, hq⟩ : ∃ q, q = pre.length + k := ⟨_, rfl⟩
      obtain ⟨z, hz⟩ : ∃ z, z = pre.length + S.length := ⟨_, rfl⟩
      have hb1 : decide ((q : Int) < (z : Int)) = true := by simp; omega
      rw [← hq, ← hz]
      go_wp2_with fail
      go_loopw [9] (fun j wr => ∃ (X Y : List Int), j = .int .i64 (pre.length + X.length : Nat) ∧ Hid (C1 = X ++ Y) ∧ Hid (∀ s ∈ Y, le x s) ∧ RowB wr R (pre ++ (X ++ x :: (Y ++ (S.drop (k + 1) ++ post)))) ∧ w0.grownBy wr (some R)) (fun j _ => (intOf j).toNat)
      case atStart => exact ⟨C1, [], by rw [hlen, hq], by show _ = _; simp, by simp [Lib.hid], by simpa using hBr, hwr⟩
      case round =>
        obtain ⟨X, Y, rfl, hC, hY, hBj, hwj⟩ := hrel
        rcases List.eq_nil_or_concat X with rfl | ⟨X0, s, rfl⟩
        · have hb2 : decide ((pre.length : Int) > (pre.length : Int)) = false := by simp
          have hb3 : decide ((pre.length : Int) < (pre.length : Int)) = false := by simp
          simp only [List.length_nil, Nat.add_zero]
          have hx := later_cell (w := wr)
          go_wp2_with fail
          refine wp_region_later (by kernel_rfl) (by kernel_rfl) ?_
          repeat (go_big_quiet_step (fail))
          refine wpQuiet_nil ?_
          rintro w2 ⟨⟨_, hb2⟩, rfl⟩
          have hBj2 := hBj.later hb2
          go_wp2_with fail
          go_roundw
          case rel =>
            refine ⟨k + 1, x :: Y, by go_num, by omega, by omega, ins_perm HX.out hP.out hC.out, ?_, by simpa using hBj2, only_trans_below hwj hb2⟩
            have h0 := hS.out
            rw [hC.out] at h0
            exact ins_sorted (S1 := []) h0 hY.out (by simp)
          case measure => simp [intOf]; omega
        · rw [List.concat_eq_append] at *
          obtain ⟨p, hp⟩ : ∃ p, p = pre.length + X0.length := ⟨_, rfl⟩
          have cs : wr.cell? ⟨R, p, none⟩ = some (.int .i64 s) := hBj.at_ (by rw [hp]; exact (two_at _ _ _ _ _).1)
          have cx : wr.cell? ⟨R, p + 1, none⟩ = some (.int .i64 x) := hBj.at_ (by rw [hp]; exact (two_at _ _ _ _ _).2)
          have hpl : p + 1 < N := by
            have h1 := hC.out
            have h2 := congrArg List.length h1
            simp at h2
            have := HN.out
            omega
          have lR := hBj.lt
          have hs : s ∈ C1 := by rw [hC.out]; simp
          have hsD : D s := HD.out s (by have := hP.out.mem_iff.1 hs; exact List.mem_of_mem_take this)
          have hxD : D x := HD.out x (List.mem_of_getElem? HX.out)
          have hag := Lib.hid (ins_agree HA.out HX.out hP.out hs)
          have M : Hid (∀ y : Later wr, Hid (Calls Try.prog g (#[.int .i64 x, .int .i64 s] ++ cb) y.val fun e w' => e = .returned (.int .i64 (cf x s)) ∧ ∃ z : Later wr, w' = z.val)) := fun y => later_call (HC.out.tells y.val (only_trans_below hwj y.property) x s hxD hsD)
          clear hs hsD hxD
          have hNb : N ≤ 1000 := by have := HN.out; omega
          have jz : (p : Int) + 1 < (N : Int) := by omega
          have jz1 : (p : Int) < (N : Int) := by omega
          have hwp : IntKind.i64.wrap (p : Int) = (p : Int) := by rw [IntKind.wrap_i64]; omega
          have p0 : (0 : Int) ≤ (p : Int) + 1 := by omega
          have e0 : ((p : Int) + 1).toNat = p + 1 := by omega
          have hb4 : decide ((p : Int) + 1 > (pre.length : Int)) = true := by simp; omega
          have hb5 : (pre.length : Int) < (p : Int) + 1 := by omega
          have hb7 : (pre.length : Int) ≤ (p : Int) := by omega
          have hb8 : pre.length ≤ p := by omega
          have hx := later_cell (w := wr)
          have ep : ((pre.length + (X0 ++ [s]).length : Nat) : Int) = (p : Int) + 1 := by rw [hp]; simp; omega
          rw [ep]
          have hqb : q ≤ 1000 := by omega
          have hlv' : ¬ cf x s < 0 → le s x := fun h => by
            by_cases h1 : le s x
            · exact h1
            · exact absurd (hag.out.2 h1) h
          have HLV := Lib.hid hlv'
          clear hlv'
          have HPp := Lib.hid hp
          have HQ := Lib.hid hq
          have HZ := Lib.hid hz
          clear hp hq hz ep
          by_cases hlv : cf x s < 0
          · have hb6 : decide (cf x s < 0) = true := by simpa using hlv
            go_wp2_with fail
            refine wp_region_later (by kernel_rfl) (by kernel_rfl) ?_
            repeat (go_big_quiet_step ((first | (go_at_fn g; exact (M.out _).out))))
            refine wpQuiet_nil ?_
            rintro w2 ⟨⟨_, hb2⟩, rfl⟩
            have hBj2 := hBj.later hb2
            have hwj2 := only_trans_below hwj hb2
            have cs2 : w2.cell? ⟨R, p, none⟩ = some (.int .i64 s) := hBj2.at_ (by rw [HPp.out]; exact (two_at _ _ _ _ _).1)
            have cx2 : w2.cell? ⟨R, p + 1, none⟩ = some (.int .i64 x) := hBj2.at_ (by rw [HPp.out]; exact (two_at _ _ _ _ _).2)
            have fs2 : w2.frozen? ⟨R, p, none⟩ = false := hBj2.frozen _
            have fx2 : w2.frozen? ⟨R, p + 1, none⟩ = false := hBj2.frozen _
            clear hx cs cx M
            obtain ⟨p1, hp1⟩ : ∃ p1, p1 = p + 1 := ⟨_, rfl⟩
            rw [← hp1] at cx2 fx2 e0
            have HP1 := Lib.hid hp1
            clear hp1
            go_wp2_with fail
            go_big_region
            all_goals go_wp2_with fail
            go_roundw
            case rel =>
              refine ⟨X0, s :: Y, ?_, ?_, ?_, ?_, ?_⟩
              · rw [HPp.out]
              · show _ = _
                rw [hC.out]; simp
              · have h1 : ¬ le s x := hag.out.1 hlv
                have h2 : le x s := (HT.out.total x s).resolve_right h1
                exact fun y hy => by
                  rcases List.mem_cons.1 hy with rfl | hy
                  · exact h2
                  · exact hY.out y hy
              · have h1 := (hBj2.set_ p1 s).set_ p x
                rw [HP1.out, HPp.out, two_swap] at h1
                rw [HP1.out, HPp.out]
                exact h1
              · exact only_setCell (only_setCell (only_drew hwj2) (.inl rfl) _) (.inl rfl) _
            case measure => simp [intOf]
          · have hb6 : decide (cf x s < 0) = false := by simpa using hlv
            go_wp2_with fail
            refine wp_region_later (by kernel_rfl) (by kernel_rfl) ?_
            repeat (go_big_quiet_step ((first | (go_at_fn g; exact (M.out _).out))))
            refine wpQuiet_nil ?_
            rintro w2 ⟨⟨_, hb2⟩, rfl⟩
            have hBj2 := hBj.later hb2
            go_wp2_with fail
            go_roundw
            case rel =>
              refine ⟨k + 1, (X0 ++ [s]) ++ x :: Y, by rw [HQ.out]; go_num, by omega, by omega, ins_perm HX.out hP.out hC.out, ?_, by simpa using hBj2, only_trans_below hwj hb2⟩
              have h0 := hS.out
              rw [hC.out] at h0
              have hle : le s x := HLV.out (by omega)
              exact ins_sorted h0 hY.out (all_before HT.out (List.pairwise_append.1 h0).1 hle)
            case measure => simp [intOf]; have := HQ.out; have := HZ.out; omega
    · have hbf : decide (((pre.length + k : Nat) : Int) < ((pre.length + S.length : Nat) : Int)) = false := by simp; omega
      have e1 : S.take k = S := List.take_of_length_le (by omega)
      have e2 : S.drop k = [] := List.drop_of_length_le (by omega)
      have E1 := Lib.hid e1
      rw [e2] at hBr
      clear e1 e2
      obtain ⟨q, hq⟩ : ∃ q, q = pre.length + k := ⟨_, rfl⟩
      obtain ⟨z, hz⟩ : ∃ z, z = pre.length + S.length := ⟨_, rfl⟩
      rw [← hq, ← hz] at hbf ⊢
      go_wp2_with fail
      go_end0
      exact ⟨rfl, C1, by rw [← E1.out]; exact hP.out, hS.out, by simpa using hBr, hwr⟩
end Go.Proofs.Ytnfcigbiebbjdaa
