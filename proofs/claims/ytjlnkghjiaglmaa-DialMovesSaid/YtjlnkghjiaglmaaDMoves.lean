/-
  Proved: DialMoves: a chronograph that is begun later shows the same as much later; its laps are the same.
  Conditions: none.
-/
import Derived.Test.YtjlnkghjiaglmaaOpens
import Derived.Test.YtjlnkghjiaglmaaOpenP
import Derived.Test.YtjlnkghjiaglmaaShift
import Derived.Test.YtjlnkghjiaglmaaLives
import Derived.Test.YtjlnkghjiaglmaaFresh
import Derived.Test.YtjlnkghjiaglmaaRPushed
namespace Go.Proofs.Ytjlnkghjiaglmaa.dialMoves
open Go.ChangeShapes Go.WideShapes Go.ChangeAt Go.RowKit

attribute [local go_sem] Oper.growAt Oper.growUpon

theorem own_later {w w' : World} {base E s : Nat} {v : Value} {n : Nat} {xs : List Value} (h : w.ownsRow base E s v n xs) (hb : Below w.heap.size w w') : w'.ownsRow base E s v n xs :=
  h.kept (row := none) ⟨hb.os, hb.tape, hb.output, hb.size, fun k hk _ => hb.block k hk⟩ (by cases v.ownBlock <;> simp)
theorem cells_of_two {w : World} {g : Nat} {x y : Value} {t : TypeId} (h : w.heap[g]? = some (.cells #[x, y] t)) : ∀ j u, [x, y][j]? = some u → w.cell? ((⟨g, 0, none⟩ : Addr).add j) = some u := by
  intro j u hj
  rw [Addr.add_lit, Nat.zero_add, cell_of_row w g j #[x, y] t (0, 0) h, ← hj, List.getElem?_toArray]
theorem shown_form (c : Ch) (t : Int) : ∃ (r h : Bool) (M S : Int), shownV c t = .agg #[.bool r, .bool h, .int .i64 M, .int .i64 S] := ⟨_, _, _, _, rfl⟩
theorem ordG_least : ∀ {l : List (Int × Int)} {s : Int}, ∀ x ∈ ordG s l, s ≤ x.1
  | [], _, x, h => by cases h
  | y :: l, s, x, h => by
    rcases List.mem_cons.1 h with rfl | h
    · show s ≤ s + y.1 % 1024
      omega
    · have := ordG_least (l := l) (s := s + y.1 % 1024) x h
      omega

set_option maxRecDepth 100000 in
set_option maxHeartbeats 2000000 in
theorem walk_in (A : Option Addr) (n cap : Nat) (a0 d0 : Int) (l : List (Int × Int)) (w : World) (hr : RowA w A n l) (L : List (Int × Int)) (N : Nat) (hN40 : N ≤ 40) (hL : ordG 0 (l.take 40) = L) (hN : min n 40 = N) (a d : Int) (ha : a0 % 65536 = a) (hd : d0 % 1048576 = d)
    (a1 : 0 ≤ a) (_a2 : a ≤ 65535) (_d1 : 0 ≤ d) (_d2 : d ≤ 1048575)
    (ht : ∀ t, (∃ b, (t, b) ∈ L) → 0 ≤ t ∧ t ≤ 1000000) (r h : Bool) (M S : Int) (hs : shownV (played a Ch.zero L) a = .agg #[.bool r, .bool h, .int .i64 M, .int .i64 S])
    (HS2 : Hid (shownV (played (a + d) Ch.zero (shiftL d L)) (a + d) = .agg #[.bool r, .bool h, .int .i64 M, .int .i64 S])) (HV : Hid (ordL 0 L = true)) (HV2 : Hid (ordL 0 (shiftL d L) = true)) (HL2 : Hid (lapsL Ch.zero (shiftL d L) = lapsL Ch.zero L)) :
    Calls Try.prog 8 #[.slice A n cap, .int .i64 a0, .int .i64 d0] w fun e w' => e = .returned (.bool true) ∧ Below w.heap.size w w' := by
  go_enter Try.func8, Try.ntmps8
  have hw0 : Below w.heap.size w w := Below.refl _ _
  go_wp2_with fail
  refine (ordered_any A n cap l w hr).mono ?_; rintro e w1 ⟨B, cB, rfl, hrB, hb1, _⟩
  have hw1 := hw0.trans (hb1.mono (by first | omega | (simp; omega) | simp))
  have s1 := hb1.size
  rw [hL, hN] at hrB
  have hP1 : Below w1.heap.size w1 w1 := Below.refl _ _
  have e1 := and_65535 a0
  have e2 := and_1048575 d0
  rw [ha] at e1
  rw [hd] at e2
  obtain ⟨i0, hi, hz0, hz1, hz2⟩ := info_parts Try.info36
  have Hi := Lib.hid hi
  have Hz0 := Lib.hid hz0
  have Hz1 := Lib.hid hz1
  have Hz2 := Lib.hid hz2
  clear hi hz0 hz1 hz2
  go_wp2_with fail
  go_loopw [8, 9] (fun v i wr => ∃ (k : Nat), k ≤ N ∧ i = .int .i64 k ∧ wr.ownsRow w1.heap.size 36 2 v k (flat (shiftL d (L.take k))) ∧ Below w1.heap.size w1 wr) (fun _ i _ => N - (intOf i).toNat)
  case atStart =>
    exact ⟨0, Nat.zero_le _, rfl, World.ownsRow_made (base := w1.heap.size) (e := 36) (size := 2) w1 #[] 0 (by simp) (by unfold maxLen; omega) (by simp), (Below.refl _ _).alloc (Nat.le_refl _) _⟩
  case round =>
    obtain ⟨k, hk, rfl, hown, hbr⟩ := hrel
    obtain ⟨v, hv3⟩ : ∃ v, v = u8 := ⟨_, rfl⟩
    subst hv3
    have hz := hbr.size
    by_cases hlt : k < N
    · obtain ⟨g, t, b, rfl, hg, hx, hc1, hc2⟩ := (hrB.later hbr).at_ hlt
      have hX := Lib.hid hx
      have htt := ht t (List.mem_iff_getElem?.2 ⟨k, hx⟩ |> fun h => ⟨b, h⟩)
      clear hx
      go_wp2_with fail
      have hL := later_cell (w := wr)
      refine wp_region_fresh 15 [0, 1, 2, 3, 4, 5, 6, 7, 8, 9, 10, 11, 12, 13] [(14, .cells #[.int .i64 (t + d), .int .i64 b] 36, fun b => .slice (some ⟨b, 0, none⟩) 1 1)] (by kernel_rfl) (by kernel_rfl) rfl ?_
      simp only [List.map_cons, List.map_nil, List.getElem?_toArray, List.getElem?_cons_zero, List.getElem?_cons_succ, Option.getD_some, List.drop_succ_cons, List.drop_zero]
      have hwr : IntKind.i64.wrap (t + d) = t + d := by rw [IntKind.wrap_i64]; omega
      iterate 14 (refine wpGrow_step (fun K hK => ?_); go_simp; (try rw [hwr]); refine hK _ ?_; clear hK K)
      refine wpGrow_nil ?_
      refine ⟨_, rfl, rfl, fun x => by go_simp, fun b14 => ?_⟩
      intro w2 hb2 hl2 _
      obtain ⟨l14, g14, h14⟩ := hl2 (b14, .cells #[.int .i64 (t + d), .int .i64 b] 36) (by simp)
      clear hl2 hL
      simp only at l14 g14 h14
      simp only [Act.put, List.setIfInBounds_toArray]
      have hown2 := own_later hown hb2
      have z2 := hb2.size
      refine wpList_append_lies _ rfl (.tmp 31) (.tmp 45) 33 rfl w1.heap.size 36 i0 (.agg #[.int .i64 0, .int .i64 0]) 2 16 Try.underlying33 Hi.out Hz0.out Hz1.out Hz2.out rfl (by decide) _ _ _ rfl hown2 ⟨b14, 0, none⟩ 1 1 [.int .i64 (t + d), .int .i64 b] rfl rfl (cells_of_two h14) ?c2 (by decide) ?c3 ?c4 ?c5 _ rfl ?_
      case c2 => simp [Value.oneCell']
      case c3 => unfold maxLen; omega
      case c4 => omega
      case c5 => omega
      intro g' cap' w3 hown3 hgrow3 _ _
      have hb3 := (hbr.trans (hb2.mono hz)).grown hgrow3 (by omega) (fun j hj => (hown2.lt j hj).1)
      go_wp2_with fail
      go_roundw
      case rel =>
        refine ⟨k + 1, by omega, by go_num, ?_, hb3⟩
        rw [shiftL_take hX.out, flat_append]
        exact hown3
      case measure => simp [intOf]; omega
  
    · skip
      have hkn : k = N := by omega
      subst hkn
      have hLN : L.length = k := hrB.1
      rw [List.take_of_length_le (by omega)] at hown
      obtain ⟨E, cE, hvE⟩ := own_slice hown
      have Hv := Lib.hid hvE
      rw [hvE] at hown
      clear hvE
      have hrE := own_row2 hown
      clear hown hz
      obtain ⟨w2, hwe⟩ : ∃ x, x = wr := ⟨_, rfl⟩
      subst hwe
      have hb2 := hbr
      clear hbr
      rw [Hv.out]
      clear Hv
      have hw2 := hw1.trans (hb2.mono (by first | omega | (simp; omega) | simp))
      have s2 := hb2.size
      have hP2 := hP1.trans (hb2.mono (by first | omega | (simp; omega) | simp))
      have hQ2 : Below w2.heap.size w2 w2 := Below.refl _ _
      go_wp2_with fail
      refine (Play_yes B k cB L a _ (hrB.later hP2) (by omega) HV.out a1 (by omega)).mono ?_; rw [hs]; rintro e w3 ⟨rfl, hb3⟩
      have hw3 := hw2.trans (hb3.mono (by first | omega | (simp; omega) | simp))
      have s3 := hb3.size
      have hP3 := hP2.trans (hb3.mono (by first | omega | (simp; omega) | simp))
      have hQ3 := hQ2.trans (hb3.mono (by first | omega | (simp; omega) | simp))
      go_wp2_with fail
      refine (Play_yes E k cE (shiftL d L) (a + d) _ (hrE.later (hQ3.alloc (by first | omega | (simp; omega) | simp) _)) (by omega) HV2.out (by omega) (by omega)).mono ?_; rw [HS2.out]; rintro e w4 ⟨rfl, hb4⟩
      have hC4 := (Blk.new w3 38 #[.bool r, .bool h, .int .i64 M, .int .i64 S]).later hb4
      have hw4 := (hw3.alloc (by first | omega | (simp; omega) | simp) _).trans (hb4.mono (by first | omega | (simp; omega) | simp))
      have s4 := hb4.size
      simp at s4
      have lC4 := hC4.lt
      have kC := hC4.cell
      have hP4 := (hP3.alloc (by first | omega | (simp; omega) | simp) _).trans (hb4.mono (by first | omega | (simp; omega) | simp))
      have hQ4 := (hQ3.alloc (by first | omega | (simp; omega) | simp) _).trans (hb4.mono (by first | omega | (simp; omega) | simp))
      go_wp2_with fail
      refine (Laps_yes B k cB L _ (hrB.later (hP4.alloc (by first | omega | (simp; omega) | simp) _)) (by omega) HV.out).mono ?_; rintro e w5 ⟨F, mF, cF, rfl, hmF, hrF, hb5⟩
      have hC5 := (hC4.alloc _).later hb5
      have hD5 := (Blk.new w4 38 #[.bool r, .bool h, .int .i64 M, .int .i64 S]).later hb5
      have hw5 := (hw4.alloc (by first | omega | (simp; omega) | simp) _).trans (hb5.mono (by first | omega | (simp; omega) | simp))
      have s5 := hb5.size
      simp at s5
      have lC5 := hC5.lt
      have lD5 := hD5.lt
      clear kC
      have kC := hC5.cell
      have kD := hD5.cell
      have hP5 := (hP4.alloc (by first | omega | (simp; omega) | simp) _).trans (hb5.mono (by first | omega | (simp; omega) | simp))
      have hQ5 := (hQ4.alloc (by first | omega | (simp; omega) | simp) _).trans (hb5.mono (by first | omega | (simp; omega) | simp))
      have hR5 : Below w5.heap.size w5 w5 := Below.refl _ _
      go_wp2_with fail
      refine (Laps_yes E k cE (shiftL d L) _ (hrE.later hQ5) (by omega) HV2.out).mono ?_; rw [HL2.out]; rintro e w6 ⟨G, mG, cG, rfl, hmG, hrG, hb6⟩
      have hC6 := hC5.later hb6
      have hD6 := hD5.later hb6
      have hw6 := hw5.trans (hb6.mono (by first | omega | (simp; omega) | simp))
      have s6 := hb6.size
      have lC6 := hC6.lt
      have lD6 := hD6.lt
      clear kC kD
      have kC := hC6.cell
      have kD := hD6.cell
      have hP6 := hP5.trans (hb6.mono (by first | omega | (simp; omega) | simp))
      have hQ6 := hQ5.trans (hb6.mono (by first | omega | (simp; omega) | simp))
      have hR6 := hR5.trans (hb6.mono (by first | omega | (simp; omega) | simp))
      have hS6 : Below w6.heap.size w6 w6 := Below.refl _ _
      have hmm : mG = mF := hrG.1.symm.trans hrF.1
      subst hmm
      go_wp2_with fail
      refine (same_true F G mG cF cG (lapsL Ch.zero L) _ (hrF.later hR6) (hrG.later hS6) (by omega)).mono ?_; rintro e w7 ⟨rfl, hb7⟩
      have hC7 := hC6.later hb7
      have hD7 := hD6.later hb7
      have hw7 := hw6.trans (hb7.mono (by first | omega | (simp; omega) | simp))
      have s7 := hb7.size
      have lC7 := hC7.lt
      have lD7 := hD7.lt
      clear kC kD
      have kC := hC7.cell
      have kD := hD7.cell
      have hP7 := hP6.trans (hb7.mono (by first | omega | (simp; omega) | simp))
      have hQ7 := hQ6.trans (hb7.mono (by first | omega | (simp; omega) | simp))
      have hR7 := hR6.trans (hb7.mono (by first | omega | (simp; omega) | simp))
      have hS7 := hS6.trans (hb7.mono (by first | omega | (simp; omega) | simp))
      go_wp2_with fail
      refine (lives_any _).mono ?_; rintro e w8 ⟨rfl, hb8⟩
      have hC8 := hC7.later hb8
      have hD8 := hD7.later hb8
      have hw8 := hw7.trans (hb8.mono (by first | omega | (simp; omega) | simp))
      have s8 := hb8.size
      have lC8 := hC8.lt
      have lD8 := hD8.lt
      clear kC kD
      have kC := hC8.cell
      have kD := hD8.cell
      have hP8 := hP7.trans (hb8.mono (by first | omega | (simp; omega) | simp))
      have hQ8 := hQ7.trans (hb8.mono (by first | omega | (simp; omega) | simp))
      have hR8 := hR7.trans (hb8.mono (by first | omega | (simp; omega) | simp))
      have hS8 := hS7.trans (hb8.mono (by first | omega | (simp; omega) | simp))
      go_wp2_with fail
      go_ret
      exact ⟨rfl, hw8⟩

theorem walk (A : Option Addr) (n cap : Nat) (a0 d0 : Int) (l : List (Int × Int)) (w : World) (hr : RowA w A n l) (_ : n ≤ cap) (_ : cap ≤ maxLen) (_ : A = none → cap = 0) :
    Calls Try.prog 8 #[.slice A n cap, .int .i64 a0, .int .i64 d0] w fun e w' => e = .returned (.bool true) ∧ Below w.heap.size w w' := by
  have h40 : min n 40 ≤ 40 := by omega
  have hl : ((l.take 40).length : Int) ≤ 40 := by rw [List.length_take]; omega
  obtain ⟨r, h, M, S, hs⟩ := shown_form (played (a0 % 65536) Ch.zero (ordG 0 (l.take 40))) (a0 % 65536)
  have hp := Later'.zero (d0 % 1048576)
  refine walk_in A n cap a0 d0 l w hr _ _ h40 rfl rfl _ _ rfl rfl (by omega) (by omega) (by omega) (by omega) ?_ r h M S hs (Lib.hid ?_) (Lib.hid ?_) (Lib.hid ?_) (Lib.hid ?_)
  · rintro t ⟨b, hb⟩
    have h1 := ordG_most (t, b) hb
    have h2 := ordG_least (l := l.take 40) (s := 0) (t, b) hb
    simp only at h1 h2
    omega
  · rw [(hp.played (l := ordG 0 (l.take 40)) (at_ := a0 % 65536)).shown]
    exact hs
  · exact ordG_ord0 (by omega) (by omega) (by omega)
  · exact ordG_ord (by omega) (by omega) (by omega)
  · exact hp.laps

set_option maxRecDepth 100000 in
theorem lifted (os : Os) (started : os.Started) (H : Type) (enc : TypeId × Value → H) :
    ReturnsInHanded {} Try.checked os 8 .any (Rows.dialMovesSpec.pre6 enc Try.prog Try.f8 Rows.dialMovesRow.domain false) (Rows.dialMovesSpec.post enc Try.prog Try.f8 false true false false) := by
  refine returnsInHanded_of_change (C := Try.checked) Try.own started (by kernel_rfl) Try.func8
    (ChangeSpec.witness6 (enc := enc) (C := Try.checked) false ⟨#[], #[.slice none 0 0, .int .i64 0, .int .i64 0], []⟩ 8 (by kernel_rfl) (by kernel_rfl) (by kernel_rfl) (by kernel_rfl)) ?_
  intro W base args ds gs before hval0 hW hcnd _
  have hval : ∀ (j : Nat) t v, Try.f8.params[j]? = some t → args[j]? = some v → Value.okWide Try.prog W .any base t v := hval0
  have hW' := hW
  obtain ⟨p, q, hA0, hV, rfl, hfz, hnd⟩ := hW
  have hA : DataW.TrodAll enc Try.prog W 0 (fun _ => true) true Try.f8.params.toList args.toList ds p := hA0
  rw [Try.params8] at hA hval
  obtain ⟨v0, vs0, d0, ds0, p0, q0, hargs, rfl, rfl, h0, r0⟩ := trodAll_cons hA
  obtain ⟨v1, vs1, d1, ds1, p1, q1, rfl, rfl, rfl, h1, r1⟩ := trodAll_cons r0
  obtain ⟨v2, vs2, d2, ds2, p2, q2, rfl, rfl, rfl, h2, r2⟩ := trodAll_cons r1
  obtain ⟨rfl, rfl, rfl⟩ := trodAll_nil r2
  obtain rfl : args = #[v0, v1, v2] := by cases args; simp_all
  obtain ⟨rfl, rfl⟩ := trodVars_none hV
  obtain ⟨A0, n0, c0, l0, rfl, x0, y0, z0, u0⟩ := open_P (hval 0 33 v0 rfl rfl) h0
  obtain ⟨a1, rfl, rfl, rfl, w1⟩ := open_int Try.underlying3 (hval 1 3 v1 rfl rfl) h1
  obtain ⟨a2, rfl, rfl, rfl, w2⟩ := open_int Try.underlying3 (hval 2 3 v2 rfl rfl) h2
  refine (walk A0 n0 c0 a1 a2 l0 W x0 y0 z0 u0).mono fun e W' ⟨he, hb⟩ => ?_
  exact ⟨_, he, law_post rfl (by kernel_rfl) (by kernel_rfl) hW' rfl rfl rfl hb⟩

set_option maxRecDepth 100000 in
theorem facts : joinedFacts Try.prog 8 Try.f8 Rows.dialMovesSpec Rows.dialMovesRow = true := by
  unfold joinedFacts
  repeat' (with_reducible refine and_t ?_ ?_)
  all_goals first
    | with_reducible exact Try.enters
    | (rw [Try.finals]; as_aux_lemma => kernel_rfl)
    | (rw [Try.made]; as_aux_lemma => kernel_rfl)
    | (as_aux_lemma => kernel_rfl)

theorem proved : Rows.DialMovesSaid :=
  OpenClaim.holds_of_wide 8 Try.f8 rfl rfl rfl rfl rfl rfl rfl ⟨rfl, rfl, rfl, rfl, rfl⟩ rfl rfl rfl rfl rfl (by as_aux_lemma => kernel_rfl) Try.func8 facts
    (of_decide_eq_true (by as_aux_lemma => kernel_rfl)) (by unfold Func.isWrapper; rw [if_neg (of_decide_eq_false (by kernel_rfl))]; exact ⟨rfl, rfl⟩)
    (fun os started H enc _ => lifted os started H enc)
#print axioms proved
end Go.Proofs.Ytjlnkghjiaglmaa.dialMoves
