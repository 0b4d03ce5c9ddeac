/-
  The walk of the law through the layers: no releases.
  No conditions.
-/
import Derived.Test.YtnfcigbiebbjdaaSwsW
import Derived.Test.YtnfcigbiebbjdaaTopI
import Derived.Test.YtnfcigbiebbjdaaOnT2
import Derived.Test.YtnfcigbiebbjdaaG9
import Derived.Deep.AppendLies
import Derived.Deep.RegionHeld3
import Derived.Deep.CutBlock
import Derived.Deep.CutRange
import Derived.Outline
namespace Go.Proofs.Ytnfcigbiebbjdaa
open Go.RowKit

attribute [local go_sem] Oper.growAt Oper.growUpon
/-- Three rows, at the loop's head. -/
structure Tri0 (W0 V : World) (v1 v2 v3 : Value) (n1 n2 n3 : Nat) (x1 x2 x3 : List Value) : Prop where
  r1 : V.ownsRow W0.heap.size 43 5 v1 n1 x1
  r2 : V.ownsRow W0.heap.size 3 1 v2 n2 x2
  r3 : V.ownsRow W0.heap.size 3 1 v3 n3 x3
  n12 : ∀ g, v1.ownBlock = some g → v2.ownBlock ≠ some g
  n13 : ∀ g, v1.ownBlock = some g → v3.ownBlock ≠ some g
  n23 : ∀ g, v2.ownBlock = some g → v3.ownBlock ≠ some g
  hb : Below W0.heap.size W0 V
section
variable {W0 V V' : World} {b : Nat} {jc : Array Value} {v1 v2 v3 : Value} {n1 n2 n3 : Nat} {x1 x2 x3 : List Value}
theorem Tri.tri0 (h : Tri W0 V b jc v1 v2 v3 n1 n2 n3 x1 x2 x3) : Tri0 W0 V v1 v2 v3 n1 n2 n3 x1 x2 x3 := ⟨h.r1, h.r2, h.r3, h.n12, h.n13, h.n23, h.hb⟩
theorem Tri0.tri (h : Tri0 W0 V v1 v2 v3 n1 n2 n3 x1 x2 x3) (hl : Below V.heap.size V V') (hb : V.heap.size ≤ b) (hk : Blk V' b 43 jc) : Tri W0 V' b jc v1 v2 v3 n1 n2 n3 x1 x2 x3 :=
  ⟨own_later h.r1 hl, own_later h.r2 hl, own_later h.r3 hl, h.n12, h.n13, h.n23, h.hb.trans (hl.mono h.hb.size), hk, fun e => by have := own_lt h.r1 e; omega, fun e => by have := own_lt h.r2 e; omega, fun e => by have := own_lt h.r3 e; omega⟩
theorem Tri0.later (h : Tri0 W0 V v1 v2 v3 n1 n2 n3 x1 x2 x3) (hl : Below V.heap.size V V') : Tri0 W0 V' v1 v2 v3 n1 n2 n3 x1 x2 x3 :=
  ⟨own_later h.r1 hl, own_later h.r2 hl, own_later h.r3 hl, h.n12, h.n13, h.n23, h.hb.trans (hl.mono h.hb.size)⟩
end
def sumW : List (Int × Int) → Int
  | [] => 0
  | x :: r => x.1 + sumW r
theorem sumW_snoc (x d : Int) : ∀ p : List (Int × Int), sumW (p ++ [(x, d)]) = sumW p + x
  | [] => by simp [sumW]
  | y :: r => by simp only [List.cons_append, sumW, sumW_snoc x d r]; omega
theorem sumW_bd : ∀ {p : List (Int × Int)}, TopOk p → 0 ≤ sumW p ∧ sumW p ≤ 50 * p.length
  | [], _ => by simp [sumW]
  | y :: r, h => by
    have h1 := sumW_bd (p := r) fun z hz => h z (List.mem_cons_of_mem _ hz)
    have h2 := h y (List.mem_cons_self ..)
    simp only [sumW, List.length_cons]
    omega
theorem TopOk.snoc {p : List (Int × Int)} (h : TopOk p) {x d : Int} (h1 : 1 ≤ x) (h2 : x ≤ 50) (h3 : 0 ≤ d) (h4 : d ≤ 399) : TopOk (p ++ [(x, d)]) := fun y hy => by
  rcases List.mem_append.1 hy with hy | hy
  · exact h y hy
  · obtain rfl : y = (x, d) := by simpa using hy
    exact ⟨h1, h2, h3, h4⟩
theorem iat_zero (k : Nat) (i : Int) : iat (List.replicate k (0 : Int)) i = 0 := by
  unfold iat
  rw [List.getD_eq_getElem?_getD, List.getElem?_replicate]
  split <;> rfl
theorem sums_perm {b : List Int} {o o' : List Int} (h : o.Perm o') : sums b o = sums b o' := by
  induction h with
  | nil => rfl
  | cons x _ ih => simp only [sums, ih]
  | swap x y l => simp only [sums]; omega
  | trans _ _ ih1 ih2 => rw [ih1, ih2]
theorem sums_app (b : List Int) : ∀ o o' : List Int, sums b (o ++ o') = sums b o + sums b o'
  | [], o' => by simp [sums]
  | x :: r, o' => by simp only [List.cons_append, sums, sums_app b r o']; omega
theorem sums_nums (b : List Int) : ∀ n : Nat, sums b (nums n) = sumTo (iat b) n
  | 0 => rfl
  | n + 1 => by
    rw [nums_succ, sums_app, sums_nums b n]
    simp [sums, sumTo]
theorem sums_works (p : List (Int × Int)) : sums (p.map (·.1)) (nums p.length) = sumW p := by
  rw [sums_nums]
  have key : ∀ k, k ≤ p.length → sumTo (iat (p.map (·.1))) k = sumW (p.take k) := by
    intro k
    induction k with
    | zero => exact fun _ => rfl
    | succ k ih =>
      intro hk
      have hx : p[k]? = some p[k] := List.getElem?_eq_getElem (by omega)
      have e : p.take (k + 1) = p.take k ++ [(p[k].1, p[k].2)] := by rw [List.take_add_one, hx]; rfl
      rw [e, sumW_snoc, ← ih (by omega)]
      show sumTo (iat (p.map (·.1))) k + iat (p.map (·.1)) k = _
      congr 1
      unfold iat
      rw [Int.toNat_natCast, List.getD_eq_getElem?_getD, List.getElem?_map, hx]
      rfl
  have h := key p.length (Nat.le_refl _)
  rwa [List.take_length] at h
theorem tri_new (w : World) : Tri0 w (((w.alloc (.cells #[] 43)).alloc (.cells #[] 3)).alloc (.cells #[] 3)) (.slice (some ⟨w.heap.size, 0, none⟩) 0 0) (.slice (some ⟨w.heap.size + 1, 0, none⟩) 0 0) (.slice (some ⟨w.heap.size + 1 + 1, 0, none⟩) 0 0) 0 0 0 [] [] [] := by
  have h1 : Below w.heap.size w (w.alloc (.cells #[] 43)) := (Below.refl _ _).alloc (Nat.le_refl _) _
  have h2 := h1.alloc h1.size (.cells #[] 3)
  have h3 := h2.alloc h2.size (.cells #[] 3)
  refine ⟨?_, ?_, ?_, fun g hg => ?_, fun g hg => ?_, fun g hg => ?_, h3⟩
  · exact ((World.ownsRow_made (base := w.heap.size) (e := 43) (size := 5) w #[] 0 (by simp) (by unfold maxLen; omega) (by simp)).alloc _).alloc _
  · have h := (World.ownsRow_made (base := w.heap.size) (e := 3) (size := 1) (w.alloc (.cells #[] 43)) #[] 0 (by simp) (by unfold maxLen; omega) (by simp)).alloc (.cells #[] 3)
    rw [World.size_alloc] at h
    exact h
  · have h := World.ownsRow_made (base := w.heap.size) (e := 3) (size := 1) ((w.alloc (.cells #[] 43)).alloc (.cells #[] 3)) #[] 0 (by simp; omega) (by unfold maxLen; omega) (by simp)
    rw [World.size_alloc, World.size_alloc] at h
    exact h
  all_goals
    intro he
    simp [Value.ownBlock] at hg he
    omega
theorem region_held_var {P : Program} {ops : Array Oper} {Q : Exit → Act → World → Prop} {S : World → Prop} {id : Nat} {a : Act} {w : World} (hm : P.follows .mixedOrders = true) (hS : S w.drew)
    (h : ∀ V, V = w.drew → S V → wpAnyH P .any ops Q S ops.size (Array.replicate ops.size false) a V) : (Code.region id ops true).wp P Q a w := wp_region_held_drew hm hS (h _ rfl)
set_option maxRecDepth 100000 in
set_option maxHeartbeats 80000000 in
theorem walkTop (A : Option Addr) (n c : Nat) (x : List Jb) (w : World) (rA : JobsA w A n x) (_hc : n ≤ c) (_hnil : A = none → c = 0) :
    Calls Try.prog 7 #[.slice A n c] w fun e w' => e = .returned (.bool true) ∧ Below w.heap.size w w' := by
  have hT0 := Lib.hid (tri_new w)
  go_enter Try.func7, Try.ntmps7
  go_wp2_with fail
  go_loopw [3, 4, 5, 6, 7] (fun u3 u4 u5 u6 u7 wr => ∃ p : List (Int × Int), TopOk p ∧ p.length ≤ 24 ∧ p.length ≤ n ∧ u7 = .int .i64 p.length ∧ u6 = .int .i64 (sumW p) ∧ Tri0 w wr u3 u4 u5 p.length p.length p.length (jflat (mkJs p) (nils p.length)) ((p.map (·.1)).map (Value.int .i64)) ((List.replicate p.length (0 : Int)).map (Value.int .i64))) (fun _ _ _ _ i _ => 24 - (intOf i).toNat)
  case atStart => exact ⟨[], fun x hx => (by cases hx), by simp, by simp, rfl, rfl, hT0.out⟩
  case round =>
    clear hT0
    obtain ⟨p, hp, hk24, hkn, rfl, rfl, hT⟩ := hrel
    obtain ⟨va, hva⟩ : ∃ v, v = u3 := ⟨_, rfl⟩
    subst hva
    obtain ⟨vb, hvb⟩ : ∃ v, v = u4 := ⟨_, rfl⟩
    subst hvb
    obtain ⟨vc, hvc⟩ : ∃ v, v = u5 := ⟨_, rfl⟩
    subst hvc
    obtain ⟨k, hk⟩ : ∃ k, k = p.length := ⟨_, rfl⟩
    have hsb := sumW_bd hp
    rw [← hk] at hT hk24 hkn hsb ⊢
    have s0 := hsb.1
    have s1 : sumW p ≤ 1200 := by omega
    clear hsb
    have HK := Lib.hid hk
    have HP := Lib.hid hp
    clear hk hp
    by_cases h1 : k < n ∧ k < 24
    · obtain ⟨h1, h2⟩ := h1
      have d1 : decide ((k : Int) < (n : Int)) = true := by simp; omega
      have d2 : decide ((k : Int) < 24) = true := by simp; omega
      have d3 : (k : Int) < (n : Int) := by omega
      obtain ⟨ad, j, e1, hg, hj, c0, _, c2, _⟩ := (rA.later hT.hb).at_ h1
      subst e1
      have l0 : ∀ y : Later wr, y.val.cell? (ad.add (k * 5)) = some (.int .i64 j.work) := fun y => (y.property.cell (p := ad.add (k * 5)) (by rw [add_block]; exact hg)).trans c0
      have l2 : ∀ y : Later wr, y.val.cell? ⟨(ad.add (k * 5)).block, (ad.add (k * 5)).off + 2, none⟩ = some (.int .i64 j.due) := fun y => (y.property.cell (p := ⟨(ad.add (k * 5)).block, (ad.add (k * 5)).off + 2, none⟩) (by show (ad.add (k * 5)).block < _; rw [add_block]; exact hg)).trans c2
      have F1 := Lib.hid (fun w => fold_top j.work 50 w (by omega) (by omega))
      have F2 := Lib.hid (fun w => fold_top j.due 400 w (by omega) (by omega))
      have q1 := Int.emod_nonneg j.work (show (50 : Int) ≠ 0 by omega)
      have q2 := Int.emod_lt_of_pos j.work (show (0 : Int) < 50 by omega)
      have q3 := Int.emod_nonneg j.due (show (400 : Int) ≠ 0 by omega)
      have q4 := Int.emod_lt_of_pos j.due (show (0 : Int) < 400 by omega)
      obtain ⟨xm, hxm⟩ : ∃ xm, xm = j.work % 50 := ⟨_, rfl⟩
      obtain ⟨dm, hdm⟩ : ∃ dm, dm = j.due % 400 := ⟨_, rfl⟩
      rw [← hxm] at F1 q1 q2
      rw [← hdm] at F2 q3 q4
      clear hxm hdm hj c0 c2
      go_upto_block 1 with fail
      go_cut [3, 4, 5, 6, 8] from 42 to 71 (fun u3 u4 u5 u6 _ wx => u6 = .int .i64 (sumW p + (xm + 1)) ∧ Tri0 w wx u3 u4 u5 (k + 1) (k + 1) (k + 1) (jflat (mkJs p) (nils k) ++ [.int .i64 (xm + 1), .int .i64 0, .int .i64 dm, .int .i64 1, .slice none 0 0]) ((p.map (·.1)).map (Value.int .i64) ++ [.int .i64 (xm + 1)]) ((List.replicate k (0 : Int)).map (Value.int .i64) ++ [.int .i64 0]))
      case first =>
        go_upto_region 5 with fail
        refine wp_region_fresh 15 [0, 1, 2, 3, 4, 5, 6, 7, 8, 9, 10, 11, 12, 13] [(14, .cells #[.int .i64 0, .int .i64 0, .int .i64 0, .int .i64 0, .slice none 0 0] 43, fun b => .pointer (some ⟨b, 0, none⟩))] (by kernel_rfl) (by kernel_rfl) rfl ?_
        simp only [List.map_cons, List.map_nil, List.getElem?_toArray, List.getElem?_cons_zero, List.getElem?_cons_succ, Option.getD_some, List.drop_succ_cons, List.drop_zero]
        iterate 5 (refine wpGrow_step (fun K hK => ?_); go_simp; refine hK _ ?_; clear hK K)
        refine wpGrow_step (fun K hK => ?_)
        go_simp
        refine ⟨.int .i64 xm, fun y => (F1.out y.val).mono (by rintro e w' ⟨rfl, rfl⟩; exact ⟨rfl, Below.refl _ _⟩), hK _ ?_⟩
        clear hK K
        iterate 6 (refine wpGrow_step (fun K hK => ?_); go_simp; refine hK _ ?_; clear hK K)
        refine wpGrow_step (fun K hK => ?_)
        go_simp
        refine ⟨.int .i64 dm, fun y => (F2.out y.val).mono (by rintro e w' ⟨rfl, rfl⟩; exact ⟨rfl, Below.refl _ _⟩), hK _ ?_⟩
        clear hK K
        refine wpGrow_step (fun K hK => ?_)
        go_simp
        refine hK _ ?_
        clear hK K
        refine wpGrow_nil ?_
        refine ⟨_, rfl, rfl, fun x => by go_simp, fun b => ?_⟩
        intro w2 hb2 hl2 _
        obtain ⟨lb, gb, hB⟩ := hl2 (b, .cells #[.int .i64 0, .int .i64 0, .int .i64 0, .int .i64 0, .slice none 0 0] 43) (by simp)
        clear hl2 l0 l2 F1 F2
        simp only at lb gb hB
        simp only [Act.put, List.setIfInBounds_toArray]
        have hkB := (((((show Blk w2 b 43 _ from hB).set_ 0 (.int .i64 (xm + 1))).set_ 1 (.int .i64 0)).set_ 2 (.int .i64 dm)).set_ 3 (.int .i64 1)).set_ 4 (.slice none 0 0)
        have cB := (show Blk w2 b 43 #[.int .i64 0, .int .i64 0, .int .i64 0, .int .i64 0, .slice none 0 0] from hB).cell
        have fB := (show Blk w2 b 43 #[.int .i64 0, .int .i64 0, .int .i64 0, .int .i64 0, .slice none 0 0] from hB).frozen
        have hbS : Below wr.heap.size wr (((((w2.setCell ⟨b, 0, none⟩ (.int .i64 (xm + 1))).setCell ⟨b, 1, none⟩ (.int .i64 0)).setCell ⟨b, 2, none⟩ (.int .i64 dm)).setCell ⟨b, 3, none⟩ (.int .i64 1)).setCell ⟨b, 4, none⟩ (.slice none 0 0)) :=
          hb2.trans (Fix.below (S := fun k => k ≠ b) ((((((Fix.refl _ _).setCell (fun e => e rfl) _).setCell (fun e => e rfl) _).setCell (fun e => e rfl) _).setCell (fun e => e rfl) _).setCell (fun e => e rfl) _) (fun k hk e => by omega))
        have R0 := hT.tri hbS lb hkB
        have R0' : Tri w (((((w2.setCell ⟨b, 0, none⟩ (.int .i64 (xm + 1))).setCell ⟨b, 1, none⟩ (.int .i64 0)).setCell ⟨b, 2, none⟩ (.int .i64 dm)).setCell ⟨b, 3, none⟩ (.int .i64 1)).setCell ⟨b, 4, none⟩ (.slice none 0 0)) b #[.int .i64 (xm + 1), .int .i64 0, .int .i64 dm, .int .i64 1, .slice none 0 0] va vb vc k k k (jflat (mkJs p) (nils k)) ((p.map (·.1)).map (Value.int .i64)) ((List.replicate k (0 : Int)).map (Value.int .i64)) := by simpa using R0
        clear hkB hbS R0 hT hB
        go_upto_region 6 with fail
        have RR := R0'.later (Below.refl _ _).drew
        have HWr : Hid (IntKind.i64.wrap (sumW p + (xm + 1)) = sumW p + (xm + 1)) := by show _ = _; rw [IntKind.wrap_i64]; omega
        clear R0' cB fB
        refine region_held_var (S := fun V => Blk V b 43 #[.int .i64 (xm + 1), .int .i64 0, .int .i64 dm, .int .i64 1, .slice none 0 0]) (by kernel_rfl) RR.blk (fun V0 hV0 hHeld => ?_)
        rw [← hV0] at RR
        clear hV0
        refine wpAnyH_take (i := 0) (v := ?_) rfl (by kernel_rfl) (by kernel_rfl) (by kernel_rfl) (fun _ _ _ h => h) (Or.inl ⟨by rfl, ?hy⟩) (by assumption) ?_
        case hy => (intro w hSw; have hcw := hSw.cell; have hlw := hSw.lt; clear hSw; go_simp; try with_reducible rfl)
        refine wpAnyH_take (i := 1) (v := ?_) rfl (by kernel_rfl) (by kernel_rfl) (by kernel_rfl) (fun _ _ _ h => h) (Or.inl ⟨by rfl, ?hy⟩) (by assumption) ?_
        case hy => (intro w hSw; have hcw := hSw.cell; have hlw := hSw.lt; clear hSw; go_simp; try with_reducible rfl)
        refine wpAnyH_take (i := 4) (v := ?_) rfl (by kernel_rfl) (by kernel_rfl) (by kernel_rfl) (fun _ _ _ h => h) (Or.inl ⟨by rfl, ?hy⟩) (by assumption) ?_
        case hy => (intro w hSw; have hcw := hSw.cell; have hlw := hSw.lt; clear hSw; go_simp; try with_reducible rfl)
        refine wpAnyH_take (i := 5) (v := ?_) rfl (by kernel_rfl) (by kernel_rfl) (by kernel_rfl) (fun _ _ _ h => h) (Or.inl ⟨by rfl, ?hy⟩) (by assumption) ?_
        case hy => (intro w hSw; have hcw := hSw.cell; have hlw := hSw.lt; clear hSw; go_simp; try with_reducible rfl)
        refine wpAnyH_take (i := 6) (v := ?_) rfl (by kernel_rfl) (by kernel_rfl) (by kernel_rfl) (fun _ _ _ h => h) (Or.inl ⟨by rfl, ?hy⟩) (by assumption) ?_
        case hy => (intro w hSw; have hcw := hSw.cell; have hlw := hSw.lt; clear hSw; go_simp; try with_reducible rfl)
        refine wpAnyH_take (i := 9) (v := ?_) rfl (by kernel_rfl) (by kernel_rfl) (by kernel_rfl) (fun _ _ _ h => h) (Or.inl ⟨by rfl, ?hy⟩) (by assumption) ?_
        case hy => (intro w hSw; have hcw := hSw.cell; have hlw := hSw.lt; clear hSw; go_simp; try with_reducible rfl)
        refine wpAnyH_take (i := 12) (v := ?_) rfl (by kernel_rfl) (by kernel_rfl) (by kernel_rfl) (fun _ _ _ h => h) (Or.inl ⟨by rfl, ?hy⟩) (by assumption) ?_
        case hy => (intro w hSw; have hcw := hSw.cell; have hlw := hSw.lt; clear hSw; go_simp; try with_reducible rfl)
        refine wpAnyH_take (i := 13) (v := ?_) rfl (by kernel_rfl) (by kernel_rfl) (by kernel_rfl) (fun _ _ _ h => h) (Or.inl ⟨by rfl, ?hy⟩) (by assumption) ?_
        case hy => (intro w hSw; have hcw := hSw.cell; have hlw := hSw.lt; clear hSw; go_simp; try with_reducible rfl)
        refine wpAnyH_take (i := 14) (v := ?_) rfl (by kernel_rfl) (by kernel_rfl) (by kernel_rfl) (fun _ _ _ h => h) (Or.inl ⟨by rfl, ?hy⟩) (by assumption) ?_
        case hy => (intro w hSw; have hcw := hSw.cell; have hlw := hSw.lt; clear hSw; go_simp; try with_reducible rfl)
        refine wpAnyH_take (i := 15) (v := ?_) rfl (by kernel_rfl) (by kernel_rfl) (by kernel_rfl) (fun _ _ _ h => h) (Or.inl ⟨by rfl, ?hy⟩) (by assumption) ?_
        case hy => (intro w hSw; have hcw := hSw.cell; have hlw := hSw.lt; clear hSw; go_simp; try with_reducible rfl)
        simp only [Act.put, List.setIfInBounds_toArray]
        have R := RR
        obtain ⟨i0, hi, hz0, hz1, hz2⟩ := info_parts info3
        have HI := Lib.hid (And.intro hi (And.intro hz0 (And.intro hz1 hz2)))
        obtain ⟨i1, hi', hz0', hz1', hz2'⟩ := info_parts info43
        have HJ := Lib.hid (And.intro hi' (And.intro hz0' (And.intro hz1' hz2')))
        clear hi hz0 hz1 hz2 hi' hz0' hz1' hz2' RR hHeld
        refine wpAnyH_ready (rs := [2, 7, 10]) (by kernel_rfl) (by simp) (AllReadyH.cons rfl (fun K hK => ?q10) (AllReadyH.cons rfl (fun K hK => ?q11) (AllReadyH.cons rfl (fun K hK => ?q12) AllReadyH.nil)))
        case q10 =>
          go_simp
          have hbd := R.build 43 #[.int .i64 (xm + 1), .int .i64 0, .int .i64 dm, .int .i64 1, .slice none 0 0]
          refine hK.out _ _ hbd.1.blk (fun _ => ?_)
          clear hK K
          obtain ⟨b1, hbe⟩ : ∃ b, b = V0.heap.size := ⟨_, rfl⟩
          rw [← hbe] at hbd ⊢
          clear hbe
          obtain ⟨R', S1⟩ := hbd
          clear R
          revert R' S1
          generalize V0.alloc (.cells #[.int .i64 (xm + 1), .int .i64 0, .int .i64 dm, .int .i64 1, .slice none 0 0] 43) = V2
          intro R S1
          refine wpAnyH_ready (rs := [3, 7, 10]) (by kernel_rfl) (by simp) (AllReadyH.cons rfl (fun K hK => ?q30) (AllReadyH.cons rfl (fun K hK => ?q31) (AllReadyH.cons rfl (fun K hK => ?q32) AllReadyH.nil)))
          case q30 =>
            refine step_append_lies _ rfl (.tmp 56) (.tmp 58) 22 rfl w.heap.size 43 i1 _ 5 56 Try.underlying22 HJ.out.1 HJ.out.2.1 HJ.out.2.2.1 HJ.out.2.2.2 rfl (by decide) va k _ rfl R.r1 ⟨b1, 0, none⟩ 1 1 [.int .i64 (xm + 1), .int .i64 0, .int .i64 dm, .int .i64 1, .slice none 0 0] rfl rfl S1.news (by simp [Value.oneCell']) (by omega) (by unfold maxLen; omega) (by omega) R.size _ rfl ?_
            intro g4 cap4 V4 hown4 hgr4 hat4 _
            have R' := R.app1 hown4 hgr4 hat4
            refine hK.out _ _ R'.blk (fun _ => ?_)
            clear hK K
            clear R S1 hown4 hgr4 hat4
            have R := R'
            clear R'
            refine wpAnyH_ready (rs := [7, 10]) (by kernel_rfl) (by simp) (AllReadyH.cons rfl (fun K hK => ?q50) (AllReadyH.cons rfl (fun K hK => ?q51) AllReadyH.nil))
            case q50 =>
              go_simp
              have hbd := R.build 3 #[.int .i64 (xm + 1)]
              refine hK.out _ _ hbd.1.blk (fun _ => ?_)
              clear hK K
              obtain ⟨b2, hbe⟩ : ∃ b, b = V4.heap.size := ⟨_, rfl⟩
              rw [← hbe] at hbd ⊢
              clear hbe
              obtain ⟨R', S2⟩ := hbd
              clear R
              revert R' S2
              generalize V4.alloc (.cells #[.int .i64 (xm + 1)] 3) = V6
              intro R S2
              refine wpAnyH_ready (rs := [8, 10]) (by kernel_rfl) (by simp) (AllReadyH.cons rfl (fun K hK => ?q70) (AllReadyH.cons rfl (fun K hK => ?q71) AllReadyH.nil))
              case q70 =>
                refine step_append_lies _ rfl (.tmp 60) (.tmp 63) 23 rfl w.heap.size 3 i0 (.int .i64 0) 1 8 Try.underlying23 HI.out.1 HI.out.2.1 HI.out.2.2.1 HI.out.2.2.2 rfl (by decide) vb k _ rfl R.r2 ⟨b2, 0, none⟩ 1 1 [.int .i64 (xm + 1)] rfl rfl S2.news (by simp [Value.oneCell']) (by omega) (by unfold maxLen; omega) (by omega) R.size _ rfl ?_
                intro g8 cap8 V8 hown8 hgr8 hat8 _
                have R' := R.app2 hown8 hgr8 hat8
                refine hK.out _ _ R'.blk (fun _ => ?_)
                clear hK K
                clear R S2 hown8 hgr8 hat8
                have R := R'
                clear R'
                refine wpAnyH_ready (rs := [10]) (by kernel_rfl) (by simp) (AllReadyH.cons rfl (fun K hK => ?_) AllReadyH.nil)
                go_simp
                have hbd := R.build 3 #[.int .i64 0]
                refine hK.out _ _ hbd.1.blk (fun _ => ?_)
                clear hK K
                obtain ⟨b3, hbe⟩ : ∃ b, b = V8.heap.size := ⟨_, rfl⟩
                rw [← hbe] at hbd ⊢
                clear hbe
                obtain ⟨R', S3⟩ := hbd
                clear R
                revert R' S3
                generalize V8.alloc (.cells #[.int .i64 0] 3) = V9
                intro R S3
                refine wpAnyH_ready (rs := [11]) (by kernel_rfl) (by simp) (AllReadyH.cons rfl (fun K hK => ?_) AllReadyH.nil)
                refine step_append_lies _ rfl (.tmp 65) (.tmp 66) 23 rfl w.heap.size 3 i0 (.int .i64 0) 1 8 Try.underlying23 HI.out.1 HI.out.2.1 HI.out.2.2.1 HI.out.2.2.2 rfl (by decide) vc k _ rfl R.r3 ⟨b3, 0, none⟩ 1 1 [.int .i64 0] rfl rfl S3.news (by simp [Value.oneCell']) (by omega) (by unfold maxLen; omega) (by omega) R.size _ rfl ?_
                intro g10 cap10 V10 hown10 hgr10 hat10 _
                have R' := R.app3 hown10 hgr10 hat10
                refine hK.out _ _ R'.blk (fun _ => ?_)
                clear hK K
                clear R S3 hown10 hgr10 hat10
                have R := R'
                clear R'
                refine wpAnyH_ready (rs := [16]) (by kernel_rfl) (by simp) (AllReadyH.cons rfl (fun K hK => ?_) AllReadyH.nil)
                go_simp
                refine hK.out _ _ R.blk (fun _ => ?_)
                clear hK K
                refine wpAnyH_ready (rs := [17]) (by kernel_rfl) (by simp) (AllReadyH.cons rfl (fun K hK => ?_) AllReadyH.nil)
                go_simp
                refine hK.out _ _ R.blk (fun _ => ?_)
                clear hK K
                refine wpAnyH_ready (rs := [18]) (by kernel_rfl) (by simp) (AllReadyH.cons rfl (fun K hK => ?_) AllReadyH.nil)
                go_simp
                refine hK.out _ _ R.blk (fun _ => ?_)
                clear hK K
                refine wpAnyH_ready (rs := [19]) (by kernel_rfl) (by simp) (AllReadyH.cons rfl (fun K hK => ?_) AllReadyH.nil)
                go_simp
                refine hK.out _ _ R.blk (fun _ => ?_)
                clear hK K
                refine wpAnyH_done (by kernel_rfl) ?_ _
                clear HI HJ
                go_wp2_with fail
                go_meet
                case rel => exact ⟨by rw [HWr.out], R.tri0⟩

              case q71 =>
                go_simp
                have hbd := R.build 3 #[.int .i64 0]
                refine hK.out _ _ hbd.1.blk (fun _ => ?_)
                clear hK K
                obtain ⟨b3, hbe⟩ : ∃ b, b = V6.heap.size := ⟨_, rfl⟩
                rw [← hbe] at hbd ⊢
                clear hbe
                obtain ⟨R', S3⟩ := hbd
                have S2' := S2.build (.cells #[.int .i64 0] 3)
                clear S2
                clear R
                revert R' S3 S2'
                generalize V6.alloc (.cells #[.int .i64 0] 3) = V11
                intro R S3 S2
                refine wpAnyH_ready (rs := [8]) (by kernel_rfl) (by simp) (AllReadyH.cons rfl (fun K hK => ?_) AllReadyH.nil)
                refine step_append_lies _ rfl (.tmp 60) (.tmp 63) 23 rfl w.heap.size 3 i0 (.int .i64 0) 1 8 Try.underlying23 HI.out.1 HI.out.2.1 HI.out.2.2.1 HI.out.2.2.2 rfl (by decide) vb k _ rfl R.r2 ⟨b2, 0, none⟩ 1 1 [.int .i64 (xm + 1)] rfl rfl S2.news (by simp [Value.oneCell']) (by omega) (by unfold maxLen; omega) (by omega) R.size _ rfl ?_
                intro g12 cap12 V12 hown12 hgr12 hat12 _
                have R' := R.app2 hown12 hgr12 hat12
                replace S3 := S3.app2 (n := k + 1) (cap := cap12) hgr12 hat12
                refine hK.out _ _ R'.blk (fun _ => ?_)
                clear hK K
                clear R S2 hown12 hgr12 hat12
                have R := R'
                clear R'
                refine wpAnyH_ready (rs := [11]) (by kernel_rfl) (by simp) (AllReadyH.cons rfl (fun K hK => ?_) AllReadyH.nil)
                refine step_append_lies _ rfl (.tmp 65) (.tmp 66) 23 rfl w.heap.size 3 i0 (.int .i64 0) 1 8 Try.underlying23 HI.out.1 HI.out.2.1 HI.out.2.2.1 HI.out.2.2.2 rfl (by decide) vc k _ rfl R.r3 ⟨b3, 0, none⟩ 1 1 [.int .i64 0] rfl rfl S3.news (by simp [Value.oneCell']) (by omega) (by unfold maxLen; omega) (by omega) R.size _ rfl ?_
                intro g13 cap13 V13 hown13 hgr13 hat13 _
                have R' := R.app3 hown13 hgr13 hat13
                refine hK.out _ _ R'.blk (fun _ => ?_)
                clear hK K
                clear R S3 hown13 hgr13 hat13
                have R := R'
                clear R'
                refine wpAnyH_ready (rs := [16]) (by kernel_rfl) (by simp) (AllReadyH.cons rfl (fun K hK => ?_) AllReadyH.nil)
                go_simp
                refine hK.out _ _ R.blk (fun _ => ?_)
                clear hK K
                refine wpAnyH_ready (rs := [17]) (by kernel_rfl) (by simp) (AllReadyH.cons rfl (fun K hK => ?_) AllReadyH.nil)
                go_simp
                refine hK.out _ _ R.blk (fun _ => ?_)
                clear hK K
                refine wpAnyH_ready (rs := [18]) (by kernel_rfl) (by simp) (AllReadyH.cons rfl (fun K hK => ?_) AllReadyH.nil)
                go_simp
                refine hK.out _ _ R.blk (fun _ => ?_)
                clear hK K
                refine wpAnyH_ready (rs := [19]) (by kernel_rfl) (by simp) (AllReadyH.cons rfl (fun K hK => ?_) AllReadyH.nil)
                go_simp
                refine hK.out _ _ R.blk (fun _ => ?_)
                clear hK K
                refine wpAnyH_done (by kernel_rfl) ?_ _
                clear HI HJ
                go_wp2_with fail
                go_meet
                case rel => exact ⟨by rw [HWr.out], R.tri0⟩


            case q51 =>
              go_simp
              have hbd := R.build 3 #[.int .i64 0]
              refine hK.out _ _ hbd.1.blk (fun _ => ?_)
              clear hK K
              obtain ⟨b3, hbe⟩ : ∃ b, b = V4.heap.size := ⟨_, rfl⟩
              rw [← hbe] at hbd ⊢
              clear hbe
              obtain ⟨R', S3⟩ := hbd
              clear R
              revert R' S3
              generalize V4.alloc (.cells #[.int .i64 0] 3) = V14
              intro R S3
              refine wpAnyH_ready (rs := [7]) (by kernel_rfl) (by simp) (AllReadyH.cons rfl (fun K hK => ?_) AllReadyH.nil)
              go_simp
              have hbd := R.build 3 #[.int .i64 (xm + 1)]
              refine hK.out _ _ hbd.1.blk (fun _ => ?_)
              clear hK K
              obtain ⟨b2, hbe⟩ : ∃ b, b = V14.heap.size := ⟨_, rfl⟩
              rw [← hbe] at hbd ⊢
              clear hbe
              obtain ⟨R', S2⟩ := hbd
              have S3' := S3.build (.cells #[.int .i64 (xm + 1)] 3)
              clear S3
              clear R
              revert R' S2 S3'
              generalize V14.alloc (.cells #[.int .i64 (xm + 1)] 3) = V15
              intro R S2 S3
              refine wpAnyH_ready (rs := [8]) (by kernel_rfl) (by simp) (AllReadyH.cons rfl (fun K hK => ?_) AllReadyH.nil)
              refine step_append_lies _ rfl (.tmp 60) (.tmp 63) 23 rfl w.heap.size 3 i0 (.int .i64 0) 1 8 Try.underlying23 HI.out.1 HI.out.2.1 HI.out.2.2.1 HI.out.2.2.2 rfl (by decide) vb k _ rfl R.r2 ⟨b2, 0, none⟩ 1 1 [.int .i64 (xm + 1)] rfl rfl S2.news (by simp [Value.oneCell']) (by omega) (by unfold maxLen; omega) (by omega) R.size _ rfl ?_
              intro g16 cap16 V16 hown16 hgr16 hat16 _
              have R' := R.app2 hown16 hgr16 hat16
              replace S3 := S3.app2 (n := k + 1) (cap := cap16) hgr16 hat16
              refine hK.out _ _ R'.blk (fun _ => ?_)
              clear hK K
              clear R S2 hown16 hgr16 hat16
              have R := R'
              clear R'
              refine wpAnyH_ready (rs := [11]) (by kernel_rfl) (by simp) (AllReadyH.cons rfl (fun K hK => ?_) AllReadyH.nil)
              refine step_append_lies _ rfl (.tmp 65) (.tmp 66) 23 rfl w.heap.size 3 i0 (.int .i64 0) 1 8 Try.underlying23 HI.out.1 HI.out.2.1 HI.out.2.2.1 HI.out.2.2.2 rfl (by decide) vc k _ rfl R.r3 ⟨b3, 0, none⟩ 1 1 [.int .i64 0] rfl rfl S3.news (by simp [Value.oneCell']) (by omega) (by unfold maxLen; omega) (by omega) R.size _ rfl ?_
              intro g17 cap17 V17 hown17 hgr17 hat17 _
              have R' := R.app3 hown17 hgr17 hat17
              refine hK.out _ _ R'.blk (fun _ => ?_)
              clear hK K
              clear R S3 hown17 hgr17 hat17
              have R := R'
              clear R'
              refine wpAnyH_ready (rs := [16]) (by kernel_rfl) (by simp) (AllReadyH.cons rfl (fun K hK => ?_) AllReadyH.nil)
              go_simp
              refine hK.out _ _ R.blk (fun _ => ?_)
              clear hK K
              refine wpAnyH_ready (rs := [17]) (by kernel_rfl) (by simp) (AllReadyH.cons rfl (fun K hK => ?_) AllReadyH.nil)
              go_simp
              refine hK.out _ _ R.blk (fun _ => ?_)
              clear hK K
              refine wpAnyH_ready (rs := [18]) (by kernel_rfl) (by simp) (AllReadyH.cons rfl (fun K hK => ?_) AllReadyH.nil)
              go_simp
              refine hK.out _ _ R.blk (fun _ => ?_)
              clear hK K
              refine wpAnyH_ready (rs := [19]) (by kernel_rfl) (by simp) (AllReadyH.cons rfl (fun K hK => ?_) AllReadyH.nil)
              go_simp
              refine hK.out _ _ R.blk (fun _ => ?_)
              clear hK K
              refine wpAnyH_done (by kernel_rfl) ?_ _
              clear HI HJ
              go_wp2_with fail
              go_meet
              case rel => exact ⟨by rw [HWr.out], R.tri0⟩


          case q31 =>
            go_simp
            have hbd := R.build 3 #[.int .i64 (xm + 1)]
            refine hK.out _ _ hbd.1.blk (fun _ => ?_)
            clear hK K
            obtain ⟨b2, hbe⟩ : ∃ b, b = V2.heap.size := ⟨_, rfl⟩
            rw [← hbe] at hbd ⊢
            clear hbe
            obtain ⟨R', S2⟩ := hbd
            have S1' := S1.build (.cells #[.int .i64 (xm + 1)] 3)
            clear S1
            clear R
            revert R' S2 S1'
            generalize V2.alloc (.cells #[.int .i64 (xm + 1)] 3) = V18
            intro R S2 S1
            refine wpAnyH_ready (rs := [3, 10]) (by kernel_rfl) (by simp) (AllReadyH.cons rfl (fun K hK => ?q190) (AllReadyH.cons rfl (fun K hK => ?q191) AllReadyH.nil))
            case q190 =>
              refine step_append_lies _ rfl (.tmp 56) (.tmp 58) 22 rfl w.heap.size 43 i1 _ 5 56 Try.underlying22 HJ.out.1 HJ.out.2.1 HJ.out.2.2.1 HJ.out.2.2.2 rfl (by decide) va k _ rfl R.r1 ⟨b1, 0, none⟩ 1 1 [.int .i64 (xm + 1), .int .i64 0, .int .i64 dm, .int .i64 1, .slice none 0 0] rfl rfl S1.news (by simp [Value.oneCell']) (by omega) (by unfold maxLen; omega) (by omega) R.size _ rfl ?_
              intro g20 cap20 V20 hown20 hgr20 hat20 _
              have R' := R.app1 hown20 hgr20 hat20
              replace S2 := S2.app1 (n := k + 1) (cap := cap20) hgr20 hat20
              refine hK.out _ _ R'.blk (fun _ => ?_)
              clear hK K
              clear R S1 hown20 hgr20 hat20
              have R := R'
              clear R'
              refine wpAnyH_ready (rs := [8, 10]) (by kernel_rfl) (by simp) (AllReadyH.cons rfl (fun K hK => ?q210) (AllReadyH.cons rfl (fun K hK => ?q211) AllReadyH.nil))
              case q210 =>
                refine step_append_lies _ rfl (.tmp 60) (.tmp 63) 23 rfl w.heap.size 3 i0 (.int .i64 0) 1 8 Try.underlying23 HI.out.1 HI.out.2.1 HI.out.2.2.1 HI.out.2.2.2 rfl (by decide) vb k _ rfl R.r2 ⟨b2, 0, none⟩ 1 1 [.int .i64 (xm + 1)] rfl rfl S2.news (by simp [Value.oneCell']) (by omega) (by unfold maxLen; omega) (by omega) R.size _ rfl ?_
                intro g22 cap22 V22 hown22 hgr22 hat22 _
                have R' := R.app2 hown22 hgr22 hat22
                refine hK.out _ _ R'.blk (fun _ => ?_)
                clear hK K
                clear R S2 hown22 hgr22 hat22
                have R := R'
                clear R'
                refine wpAnyH_ready (rs := [10]) (by kernel_rfl) (by simp) (AllReadyH.cons rfl (fun K hK => ?_) AllReadyH.nil)
                go_simp
                have hbd := R.build 3 #[.int .i64 0]
                refine hK.out _ _ hbd.1.blk (fun _ => ?_)
                clear hK K
                obtain ⟨b3, hbe⟩ : ∃ b, b = V22.heap.size := ⟨_, rfl⟩
                rw [← hbe] at hbd ⊢
                clear hbe
                obtain ⟨R', S3⟩ := hbd
                clear R
                revert R' S3
                generalize V22.alloc (.cells #[.int .i64 0] 3) = V23
                intro R S3
                refine wpAnyH_ready (rs := [11]) (by kernel_rfl) (by simp) (AllReadyH.cons rfl (fun K hK => ?_) AllReadyH.nil)
                refine step_append_lies _ rfl (.tmp 65) (.tmp 66) 23 rfl w.heap.size 3 i0 (.int .i64 0) 1 8 Try.underlying23 HI.out.1 HI.out.2.1 HI.out.2.2.1 HI.out.2.2.2 rfl (by decide) vc k _ rfl R.r3 ⟨b3, 0, none⟩ 1 1 [.int .i64 0] rfl rfl S3.news (by simp [Value.oneCell']) (by omega) (by unfold maxLen; omega) (by omega) R.size _ rfl ?_
                intro g24 cap24 V24 hown24 hgr24 hat24 _
                have R' := R.app3 hown24 hgr24 hat24
                refine hK.out _ _ R'.blk (fun _ => ?_)
                clear hK K
                clear R S3 hown24 hgr24 hat24
                have R := R'
                clear R'
                refine wpAnyH_ready (rs := [16]) (by kernel_rfl) (by simp) (AllReadyH.cons rfl (fun K hK => ?_) AllReadyH.nil)
                go_simp
                refine hK.out _ _ R.blk (fun _ => ?_)
                clear hK K
                refine wpAnyH_ready (rs := [17]) (by kernel_rfl) (by simp) (AllReadyH.cons rfl (fun K hK => ?_) AllReadyH.nil)
                go_simp
                refine hK.out _ _ R.blk (fun _ => ?_)
                clear hK K
                refine wpAnyH_ready (rs := [18]) (by kernel_rfl) (by simp) (AllReadyH.cons rfl (fun K hK => ?_) AllReadyH.nil)
                go_simp
                refine hK.out _ _ R.blk (fun _ => ?_)
                clear hK K
                refine wpAnyH_ready (rs := [19]) (by kernel_rfl) (by simp) (AllReadyH.cons rfl (fun K hK => ?_) AllReadyH.nil)
                go_simp
                refine hK.out _ _ R.blk (fun _ => ?_)
                clear hK K
                refine wpAnyH_done (by kernel_rfl) ?_ _
                clear HI HJ
                go_wp2_with fail
                go_meet
                case rel => exact ⟨by rw [HWr.out], R.tri0⟩

              case q211 =>
                go_simp
                have hbd := R.build 3 #[.int .i64 0]
                refine hK.out _ _ hbd.1.blk (fun _ => ?_)
                clear hK K
                obtain ⟨b3, hbe⟩ : ∃ b, b = V20.heap.size := ⟨_, rfl⟩
                rw [← hbe] at hbd ⊢
                clear hbe
                obtain ⟨R', S3⟩ := hbd
                have S2' := S2.build (.cells #[.int .i64 0] 3)
                clear S2
                clear R
                revert R' S3 S2'
                generalize V20.alloc (.cells #[.int .i64 0] 3) = V25
                intro R S3 S2
                refine wpAnyH_ready (rs := [8]) (by kernel_rfl) (by simp) (AllReadyH.cons rfl (fun K hK => ?_) AllReadyH.nil)
                refine step_append_lies _ rfl (.tmp 60) (.tmp 63) 23 rfl w.heap.size 3 i0 (.int .i64 0) 1 8 Try.underlying23 HI.out.1 HI.out.2.1 HI.out.2.2.1 HI.out.2.2.2 rfl (by decide) vb k _ rfl R.r2 ⟨b2, 0, none⟩ 1 1 [.int .i64 (xm + 1)] rfl rfl S2.news (by simp [Value.oneCell']) (by omega) (by unfold maxLen; omega) (by omega) R.size _ rfl ?_
                intro g26 cap26 V26 hown26 hgr26 hat26 _
                have R' := R.app2 hown26 hgr26 hat26
                replace S3 := S3.app2 (n := k + 1) (cap := cap26) hgr26 hat26
                refine hK.out _ _ R'.blk (fun _ => ?_)
                clear hK K
                clear R S2 hown26 hgr26 hat26
                have R := R'
                clear R'
                refine wpAnyH_ready (rs := [11]) (by kernel_rfl) (by simp) (AllReadyH.cons rfl (fun K hK => ?_) AllReadyH.nil)
                refine step_append_lies _ rfl (.tmp 65) (.tmp 66) 23 rfl w.heap.size 3 i0 (.int .i64 0) 1 8 Try.underlying23 HI.out.1 HI.out.2.1 HI.out.2.2.1 HI.out.2.2.2 rfl (by decide) vc k _ rfl R.r3 ⟨b3, 0, none⟩ 1 1 [.int .i64 0] rfl rfl S3.news (by simp [Value.oneCell']) (by omega) (by unfold maxLen; omega) (by omega) R.size _ rfl ?_
                intro g27 cap27 V27 hown27 hgr27 hat27 _
                have R' := R.app3 hown27 hgr27 hat27
                refine hK.out _ _ R'.blk (fun _ => ?_)
                clear hK K
                clear R S3 hown27 hgr27 hat27
                have R := R'
                clear R'
                refine wpAnyH_ready (rs := [16]) (by kernel_rfl) (by simp) (AllReadyH.cons rfl (fun K hK => ?_) AllReadyH.nil)
                go_simp
                refine hK.out _ _ R.blk (fun _ => ?_)
                clear hK K
                refine wpAnyH_ready (rs := [17]) (by kernel_rfl) (by simp) (AllReadyH.cons rfl (fun K hK => ?_) AllReadyH.nil)
                go_simp
                refine hK.out _ _ R.blk (fun _ => ?_)
                clear hK K
                refine wpAnyH_ready (rs := [18]) (by kernel_rfl) (by simp) (AllReadyH.cons rfl (fun K hK => ?_) AllReadyH.nil)
                go_simp
                refine hK.out _ _ R.blk (fun _ => ?_)
                clear hK K
                refine wpAnyH_ready (rs := [19]) (by kernel_rfl) (by simp) (AllReadyH.cons rfl (fun K hK => ?_) AllReadyH.nil)
                go_simp
                refine hK.out _ _ R.blk (fun _ => ?_)
                clear hK K
                refine wpAnyH_done (by kernel_rfl) ?_ _
                clear HI HJ
                go_wp2_with fail
                go_meet
                case rel => exact ⟨by rw [HWr.out], R.tri0⟩


            case q191 =>
              go_simp
              have hbd := R.build 3 #[.int .i64 0]
              refine hK.out _ _ hbd.1.blk (fun _ => ?_)
              clear hK K
              obtain ⟨b3, hbe⟩ : ∃ b, b = V18.heap.size := ⟨_, rfl⟩
              rw [← hbe] at hbd ⊢
              clear hbe
              obtain ⟨R', S3⟩ := hbd
              have S1' := S1.build (.cells #[.int .i64 0] 3)
              clear S1
              have S2' := S2.build (.cells #[.int .i64 0] 3)
              clear S2
              clear R
              revert R' S3 S1' S2'
              generalize V18.alloc (.cells #[.int .i64 0] 3) = V28
              intro R S3 S1 S2
              refine wpAnyH_ready (rs := [3]) (by kernel_rfl) (by simp) (AllReadyH.cons rfl (fun K hK => ?_) AllReadyH.nil)
              refine step_append_lies _ rfl (.tmp 56) (.tmp 58) 22 rfl w.heap.size 43 i1 _ 5 56 Try.underlying22 HJ.out.1 HJ.out.2.1 HJ.out.2.2.1 HJ.out.2.2.2 rfl (by decide) va k _ rfl R.r1 ⟨b1, 0, none⟩ 1 1 [.int .i64 (xm + 1), .int .i64 0, .int .i64 dm, .int .i64 1, .slice none 0 0] rfl rfl S1.news (by simp [Value.oneCell']) (by omega) (by unfold maxLen; omega) (by omega) R.size _ rfl ?_
              intro g29 cap29 V29 hown29 hgr29 hat29 _
              have R' := R.app1 hown29 hgr29 hat29
              replace S2 := S2.app1 (n := k + 1) (cap := cap29) hgr29 hat29
              replace S3 := S3.app1 (n := k + 1) (cap := cap29) hgr29 hat29
              refine hK.out _ _ R'.blk (fun _ => ?_)
              clear hK K
              clear R S1 hown29 hgr29 hat29
              have R := R'
              clear R'
              refine wpAnyH_ready (rs := [8]) (by kernel_rfl) (by simp) (AllReadyH.cons rfl (fun K hK => ?_) AllReadyH.nil)
              refine step_append_lies _ rfl (.tmp 60) (.tmp 63) 23 rfl w.heap.size 3 i0 (.int .i64 0) 1 8 Try.underlying23 HI.out.1 HI.out.2.1 HI.out.2.2.1 HI.out.2.2.2 rfl (by decide) vb k _ rfl R.r2 ⟨b2, 0, none⟩ 1 1 [.int .i64 (xm + 1)] rfl rfl S2.news (by simp [Value.oneCell']) (by omega) (by unfold maxLen; omega) (by omega) R.size _ rfl ?_
              intro g30 cap30 V30 hown30 hgr30 hat30 _
              have R' := R.app2 hown30 hgr30 hat30
              replace S3 := S3.app2 (n := k + 1) (cap := cap30) hgr30 hat30
              refine hK.out _ _ R'.blk (fun _ => ?_)
              clear hK K
              clear R S2 hown30 hgr30 hat30
              have R := R'
              clear R'
              refine wpAnyH_ready (rs := [11]) (by kernel_rfl) (by simp) (AllReadyH.cons rfl (fun K hK => ?_) AllReadyH.nil)
              refine step_append_lies _ rfl (.tmp 65) (.tmp 66) 23 rfl w.heap.size 3 i0 (.int .i64 0) 1 8 Try.underlying23 HI.out.1 HI.out.2.1 HI.out.2.2.1 HI.out.2.2.2 rfl (by decide) vc k _ rfl R.r3 ⟨b3, 0, none⟩ 1 1 [.int .i64 0] rfl rfl S3.news (by simp [Value.oneCell']) (by omega) (by unfold maxLen; omega) (by omega) R.size _ rfl ?_
              intro g31 cap31 V31 hown31 hgr31 hat31 _
              have R' := R.app3 hown31 hgr31 hat31
              refine hK.out _ _ R'.blk (fun _ => ?_)
              clear hK K
              clear R S3 hown31 hgr31 hat31
              have R := R'
              clear R'
              refine wpAnyH_ready (rs := [16]) (by kernel_rfl) (by simp) (AllReadyH.cons rfl (fun K hK => ?_) AllReadyH.nil)
              go_simp
              refine hK.out _ _ R.blk (fun _ => ?_)
              clear hK K
              refine wpAnyH_ready (rs := [17]) (by kernel_rfl) (by simp) (AllReadyH.cons rfl (fun K hK => ?_) AllReadyH.nil)
              go_simp
              refine hK.out _ _ R.blk (fun _ => ?_)
              clear hK K
              refine wpAnyH_ready (rs := [18]) (by kernel_rfl) (by simp) (AllReadyH.cons rfl (fun K hK => ?_) AllReadyH.nil)
              go_simp
              refine hK.out _ _ R.blk (fun _ => ?_)
              clear hK K
              refine wpAnyH_ready (rs := [19]) (by kernel_rfl) (by simp) (AllReadyH.cons rfl (fun K hK => ?_) AllReadyH.nil)
              go_simp
              refine hK.out _ _ R.blk (fun _ => ?_)
              clear hK K
              refine wpAnyH_done (by kernel_rfl) ?_ _
              clear HI HJ
              go_wp2_with fail
              go_meet
              case rel => exact ⟨by rw [HWr.out], R.tri0⟩


          case q32 =>
            go_simp
            have hbd := R.build 3 #[.int .i64 0]
            refine hK.out _ _ hbd.1.blk (fun _ => ?_)
            clear hK K
            obtain ⟨b3, hbe⟩ : ∃ b, b = V2.heap.size := ⟨_, rfl⟩
            rw [← hbe] at hbd ⊢
            clear hbe
            obtain ⟨R', S3⟩ := hbd
            have S1' := S1.build (.cells #[.int .i64 0] 3)
            clear S1
            clear R
            revert R' S3 S1'
            generalize V2.alloc (.cells #[.int .i64 0] 3) = V32
            intro R S3 S1
            refine wpAnyH_ready (rs := [3, 7]) (by kernel_rfl) (by simp) (AllReadyH.cons rfl (fun K hK => ?q330) (AllReadyH.cons rfl (fun K hK => ?q331) AllReadyH.nil))
            case q330 =>
              refine step_append_lies _ rfl (.tmp 56) (.tmp 58) 22 rfl w.heap.size 43 i1 _ 5 56 Try.underlying22 HJ.out.1 HJ.out.2.1 HJ.out.2.2.1 HJ.out.2.2.2 rfl (by decide) va k _ rfl R.r1 ⟨b1, 0, none⟩ 1 1 [.int .i64 (xm + 1), .int .i64 0, .int .i64 dm, .int .i64 1, .slice none 0 0] rfl rfl S1.news (by simp [Value.oneCell']) (by omega) (by unfold maxLen; omega) (by omega) R.size _ rfl ?_
              intro g34 cap34 V34 hown34 hgr34 hat34 _
              have R' := R.app1 hown34 hgr34 hat34
              replace S3 := S3.app1 (n := k + 1) (cap := cap34) hgr34 hat34
              refine hK.out _ _ R'.blk (fun _ => ?_)
              clear hK K
              clear R S1 hown34 hgr34 hat34
              have R := R'
              clear R'
              refine wpAnyH_ready (rs := [7]) (by kernel_rfl) (by simp) (AllReadyH.cons rfl (fun K hK => ?_) AllReadyH.nil)
              go_simp
              have hbd := R.build 3 #[.int .i64 (xm + 1)]
              refine hK.out _ _ hbd.1.blk (fun _ => ?_)
              clear hK K
              obtain ⟨b2, hbe⟩ : ∃ b, b = V34.heap.size := ⟨_, rfl⟩
              rw [← hbe] at hbd ⊢
              clear hbe
              obtain ⟨R', S2⟩ := hbd
              have S3' := S3.build (.cells #[.int .i64 (xm + 1)] 3)
              clear S3
              clear R
              revert R' S2 S3'
              generalize V34.alloc (.cells #[.int .i64 (xm + 1)] 3) = V35
              intro R S2 S3
              refine wpAnyH_ready (rs := [8]) (by kernel_rfl) (by simp) (AllReadyH.cons rfl (fun K hK => ?_) AllReadyH.nil)
              refine step_append_lies _ rfl (.tmp 60) (.tmp 63) 23 rfl w.heap.size 3 i0 (.int .i64 0) 1 8 Try.underlying23 HI.out.1 HI.out.2.1 HI.out.2.2.1 HI.out.2.2.2 rfl (by decide) vb k _ rfl R.r2 ⟨b2, 0, none⟩ 1 1 [.int .i64 (xm + 1)] rfl rfl S2.news (by simp [Value.oneCell']) (by omega) (by unfold maxLen; omega) (by omega) R.size _ rfl ?_
              intro g36 cap36 V36 hown36 hgr36 hat36 _
              have R' := R.app2 hown36 hgr36 hat36
              replace S3 := S3.app2 (n := k + 1) (cap := cap36) hgr36 hat36
              refine hK.out _ _ R'.blk (fun _ => ?_)
              clear hK K
              clear R S2 hown36 hgr36 hat36
              have R := R'
              clear R'
              refine wpAnyH_ready (rs := [11]) (by kernel_rfl) (by simp) (AllReadyH.cons rfl (fun K hK => ?_) AllReadyH.nil)
              refine step_append_lies _ rfl (.tmp 65) (.tmp 66) 23 rfl w.heap.size 3 i0 (.int .i64 0) 1 8 Try.underlying23 HI.out.1 HI.out.2.1 HI.out.2.2.1 HI.out.2.2.2 rfl (by decide) vc k _ rfl R.r3 ⟨b3, 0, none⟩ 1 1 [.int .i64 0] rfl rfl S3.news (by simp [Value.oneCell']) (by omega) (by unfold maxLen; omega) (by omega) R.size _ rfl ?_
              intro g37 cap37 V37 hown37 hgr37 hat37 _
              have R' := R.app3 hown37 hgr37 hat37
              refine hK.out _ _ R'.blk (fun _ => ?_)
              clear hK K
              clear R S3 hown37 hgr37 hat37
              have R := R'
              clear R'
              refine wpAnyH_ready (rs := [16]) (by kernel_rfl) (by simp) (AllReadyH.cons rfl (fun K hK => ?_) AllReadyH.nil)
              go_simp
              refine hK.out _ _ R.blk (fun _ => ?_)
              clear hK K
              refine wpAnyH_ready (rs := [17]) (by kernel_rfl) (by simp) (AllReadyH.cons rfl (fun K hK => ?_) AllReadyH.nil)
              go_simp
              refine hK.out _ _ R.blk (fun _ => ?_)
              clear hK K
              refine wpAnyH_ready (rs := [18]) (by kernel_rfl) (by simp) (AllReadyH.cons rfl (fun K hK => ?_) AllReadyH.nil)
              go_simp
              refine hK.out _ _ R.blk (fun _ => ?_)
              clear hK K
              refine wpAnyH_ready (rs := [19]) (by kernel_rfl) (by simp) (AllReadyH.cons rfl (fun K hK => ?_) AllReadyH.nil)
              go_simp
              refine hK.out _ _ R.blk (fun _ => ?_)
              clear hK K
              refine wpAnyH_done (by kernel_rfl) ?_ _
              clear HI HJ
              go_wp2_with fail
              go_meet
              case rel => exact ⟨by rw [HWr.out], R.tri0⟩

            case q331 =>
              go_simp
              have hbd := R.build 3 #[.int .i64 (xm + 1)]
              refine hK.out _ _ hbd.1.blk (fun _ => ?_)
              clear hK K
              obtain ⟨b2, hbe⟩ : ∃ b, b = V32.heap.size := ⟨_, rfl⟩
              rw [← hbe] at hbd ⊢
              clear hbe
              obtain ⟨R', S2⟩ := hbd
              have S1' := S1.build (.cells #[.int .i64 (xm + 1)] 3)
              clear S1
              have S3' := S3.build (.cells #[.int .i64 (xm + 1)] 3)
              clear S3
              clear R
              revert R' S2 S1' S3'
              generalize V32.alloc (.cells #[.int .i64 (xm + 1)] 3) = V38
              intro R S2 S1 S3
              refine wpAnyH_ready (rs := [3]) (by kernel_rfl) (by simp) (AllReadyH.cons rfl (fun K hK => ?_) AllReadyH.nil)
              refine step_append_lies _ rfl (.tmp 56) (.tmp 58) 22 rfl w.heap.size 43 i1 _ 5 56 Try.underlying22 HJ.out.1 HJ.out.2.1 HJ.out.2.2.1 HJ.out.2.2.2 rfl (by decide) va k _ rfl R.r1 ⟨b1, 0, none⟩ 1 1 [.int .i64 (xm + 1), .int .i64 0, .int .i64 dm, .int .i64 1, .slice none 0 0] rfl rfl S1.news (by simp [Value.oneCell']) (by omega) (by unfold maxLen; omega) (by omega) R.size _ rfl ?_
              intro g39 cap39 V39 hown39 hgr39 hat39 _
              have R' := R.app1 hown39 hgr39 hat39
              replace S3 := S3.app1 (n := k + 1) (cap := cap39) hgr39 hat39
              replace S2 := S2.app1 (n := k + 1) (cap := cap39) hgr39 hat39
              refine hK.out _ _ R'.blk (fun _ => ?_)
              clear hK K
              clear R S1 hown39 hgr39 hat39
              have R := R'
              clear R'
              refine wpAnyH_ready (rs := [8]) (by kernel_rfl) (by simp) (AllReadyH.cons rfl (fun K hK => ?_) AllReadyH.nil)
              refine step_append_lies _ rfl (.tmp 60) (.tmp 63) 23 rfl w.heap.size 3 i0 (.int .i64 0) 1 8 Try.underlying23 HI.out.1 HI.out.2.1 HI.out.2.2.1 HI.out.2.2.2 rfl (by decide) vb k _ rfl R.r2 ⟨b2, 0, none⟩ 1 1 [.int .i64 (xm + 1)] rfl rfl S2.news (by simp [Value.oneCell']) (by omega) (by unfold maxLen; omega) (by omega) R.size _ rfl ?_
              intro g40 cap40 V40 hown40 hgr40 hat40 _
              have R' := R.app2 hown40 hgr40 hat40
              replace S3 := S3.app2 (n := k + 1) (cap := cap40) hgr40 hat40
              refine hK.out _ _ R'.blk (fun _ => ?_)
              clear hK K
              clear R S2 hown40 hgr40 hat40
              have R := R'
              clear R'
              refine wpAnyH_ready (rs := [11]) (by kernel_rfl) (by simp) (AllReadyH.cons rfl (fun K hK => ?_) AllReadyH.nil)
              refine step_append_lies _ rfl (.tmp 65) (.tmp 66) 23 rfl w.heap.size 3 i0 (.int .i64 0) 1 8 Try.underlying23 HI.out.1 HI.out.2.1 HI.out.2.2.1 HI.out.2.2.2 rfl (by decide) vc k _ rfl R.r3 ⟨b3, 0, none⟩ 1 1 [.int .i64 0] rfl rfl S3.news (by simp [Value.oneCell']) (by omega) (by unfold maxLen; omega) (by omega) R.size _ rfl ?_
              intro g41 cap41 V41 hown41 hgr41 hat41 _
              have R' := R.app3 hown41 hgr41 hat41
              refine hK.out _ _ R'.blk (fun _ => ?_)
              clear hK K
              clear R S3 hown41 hgr41 hat41
              have R := R'
              clear R'
              refine wpAnyH_ready (rs := [16]) (by kernel_rfl) (by simp) (AllReadyH.cons rfl (fun K hK => ?_) AllReadyH.nil)
              go_simp
              refine hK.out _ _ R.blk (fun _ => ?_)
              clear hK K
              refine wpAnyH_ready (rs := [17]) (by kernel_rfl) (by simp) (AllReadyH.cons rfl (fun K hK => ?_) AllReadyH.nil)
              go_simp
              refine hK.out _ _ R.blk (fun _ => ?_)
              clear hK K
              refine wpAnyH_ready (rs := [18]) (by kernel_rfl) (by simp) (AllReadyH.cons rfl (fun K hK => ?_) AllReadyH.nil)
              go_simp
              refine hK.out _ _ R.blk (fun _ => ?_)
              clear hK K
              refine wpAnyH_ready (rs := [19]) (by kernel_rfl) (by simp) (AllReadyH.cons rfl (fun K hK => ?_) AllReadyH.nil)
              go_simp
              refine hK.out _ _ R.blk (fun _ => ?_)
              clear hK K
              refine wpAnyH_done (by kernel_rfl) ?_ _
              clear HI HJ
              go_wp2_with fail
              go_meet
              case rel => exact ⟨by rw [HWr.out], R.tri0⟩



        case q11 =>
          go_simp
          have hbd := R.build 3 #[.int .i64 (xm + 1)]
          refine hK.out _ _ hbd.1.blk (fun _ => ?_)
          clear hK K
          obtain ⟨b2, hbe⟩ : ∃ b, b = V0.heap.size := ⟨_, rfl⟩
          rw [← hbe] at hbd ⊢
          clear hbe
          obtain ⟨R', S2⟩ := hbd
          clear R
          revert R' S2
          generalize V0.alloc (.cells #[.int .i64 (xm + 1)] 3) = V42
          intro R S2
          refine wpAnyH_ready (rs := [2, 10]) (by kernel_rfl) (by simp) (AllReadyH.cons rfl (fun K hK => ?q430) (AllReadyH.cons rfl (fun K hK => ?q431) AllReadyH.nil))
          case q430 =>
            go_simp
            have hbd := R.build 43 #[.int .i64 (xm + 1), .int .i64 0, .int .i64 dm, .int .i64 1, .slice none 0 0]
            refine hK.out _ _ hbd.1.blk (fun _ => ?_)
            clear hK K
            obtain ⟨b1, hbe⟩ : ∃ b, b = V42.heap.size := ⟨_, rfl⟩
            rw [← hbe] at hbd ⊢
            clear hbe
            obtain ⟨R', S1⟩ := hbd
            have S2' := S2.build (.cells #[.int .i64 (xm + 1), .int .i64 0, .int .i64 dm, .int .i64 1, .slice none 0 0] 43)
            clear S2
            clear R
            revert R' S1 S2'
            generalize V42.alloc (.cells #[.int .i64 (xm + 1), .int .i64 0, .int .i64 dm, .int .i64 1, .slice none 0 0] 43) = V44
            intro R S1 S2
            refine wpAnyH_ready (rs := [3, 10]) (by kernel_rfl) (by simp) (AllReadyH.cons rfl (fun K hK => ?q450) (AllReadyH.cons rfl (fun K hK => ?q451) AllReadyH.nil))
            case q450 =>
              refine step_append_lies _ rfl (.tmp 56) (.tmp 58) 22 rfl w.heap.size 43 i1 _ 5 56 Try.underlying22 HJ.out.1 HJ.out.2.1 HJ.out.2.2.1 HJ.out.2.2.2 rfl (by decide) va k _ rfl R.r1 ⟨b1, 0, none⟩ 1 1 [.int .i64 (xm + 1), .int .i64 0, .int .i64 dm, .int .i64 1, .slice none 0 0] rfl rfl S1.news (by simp [Value.oneCell']) (by omega) (by unfold maxLen; omega) (by omega) R.size _ rfl ?_
              intro g46 cap46 V46 hown46 hgr46 hat46 _
              have R' := R.app1 hown46 hgr46 hat46
              replace S2 := S2.app1 (n := k + 1) (cap := cap46) hgr46 hat46
              refine hK.out _ _ R'.blk (fun _ => ?_)
              clear hK K
              clear R S1 hown46 hgr46 hat46
              have R := R'
              clear R'
              refine wpAnyH_ready (rs := [8, 10]) (by kernel_rfl) (by simp) (AllReadyH.cons rfl (fun K hK => ?q470) (AllReadyH.cons rfl (fun K hK => ?q471) AllReadyH.nil))
              case q470 =>
                refine step_append_lies _ rfl (.tmp 60) (.tmp 63) 23 rfl w.heap.size 3 i0 (.int .i64 0) 1 8 Try.underlying23 HI.out.1 HI.out.2.1 HI.out.2.2.1 HI.out.2.2.2 rfl (by decide) vb k _ rfl R.r2 ⟨b2, 0, none⟩ 1 1 [.int .i64 (xm + 1)] rfl rfl S2.news (by simp [Value.oneCell']) (by omega) (by unfold maxLen; omega) (by omega) R.size _ rfl ?_
                intro g48 cap48 V48 hown48 hgr48 hat48 _
                have R' := R.app2 hown48 hgr48 hat48
                refine hK.out _ _ R'.blk (fun _ => ?_)
                clear hK K
                clear R S2 hown48 hgr48 hat48
                have R := R'
                clear R'
                refine wpAnyH_ready (rs := [10]) (by kernel_rfl) (by simp) (AllReadyH.cons rfl (fun K hK => ?_) AllReadyH.nil)
                go_simp
                have hbd := R.build 3 #[.int .i64 0]
                refine hK.out _ _ hbd.1.blk (fun _ => ?_)
                clear hK K
                obtain ⟨b3, hbe⟩ : ∃ b, b = V48.heap.size := ⟨_, rfl⟩
                rw [← hbe] at hbd ⊢
                clear hbe
                obtain ⟨R', S3⟩ := hbd
                clear R
                revert R' S3
                generalize V48.alloc (.cells #[.int .i64 0] 3) = V49
                intro R S3
                refine wpAnyH_ready (rs := [11]) (by kernel_rfl) (by simp) (AllReadyH.cons rfl (fun K hK => ?_) AllReadyH.nil)
                refine step_append_lies _ rfl (.tmp 65) (.tmp 66) 23 rfl w.heap.size 3 i0 (.int .i64 0) 1 8 Try.underlying23 HI.out.1 HI.out.2.1 HI.out.2.2.1 HI.out.2.2.2 rfl (by decide) vc k _ rfl R.r3 ⟨b3, 0, none⟩ 1 1 [.int .i64 0] rfl rfl S3.news (by simp [Value.oneCell']) (by omega) (by unfold maxLen; omega) (by omega) R.size _ rfl ?_
                intro g50 cap50 V50 hown50 hgr50 hat50 _
                have R' := R.app3 hown50 hgr50 hat50
                refine hK.out _ _ R'.blk (fun _ => ?_)
                clear hK K
                clear R S3 hown50 hgr50 hat50
                have R := R'
                clear R'
                refine wpAnyH_ready (rs := [16]) (by kernel_rfl) (by simp) (AllReadyH.cons rfl (fun K hK => ?_) AllReadyH.nil)
                go_simp
                refine hK.out _ _ R.blk (fun _ => ?_)
                clear hK K
                refine wpAnyH_ready (rs := [17]) (by kernel_rfl) (by simp) (AllReadyH.cons rfl (fun K hK => ?_) AllReadyH.nil)
                go_simp
                refine hK.out _ _ R.blk (fun _ => ?_)
                clear hK K
                refine wpAnyH_ready (rs := [18]) (by kernel_rfl) (by simp) (AllReadyH.cons rfl (fun K hK => ?_) AllReadyH.nil)
                go_simp
                refine hK.out _ _ R.blk (fun _ => ?_)
                clear hK K
                refine wpAnyH_ready (rs := [19]) (by kernel_rfl) (by simp) (AllReadyH.cons rfl (fun K hK => ?_) AllReadyH.nil)
                go_simp
                refine hK.out _ _ R.blk (fun _ => ?_)
                clear hK K
                refine wpAnyH_done (by kernel_rfl) ?_ _
                clear HI HJ
                go_wp2_with fail
                go_meet
                case rel => exact ⟨by rw [HWr.out], R.tri0⟩

              case q471 =>
                go_simp
                have hbd := R.build 3 #[.int .i64 0]
                refine hK.out _ _ hbd.1.blk (fun _ => ?_)
                clear hK K
                obtain ⟨b3, hbe⟩ : ∃ b, b = V46.heap.size := ⟨_, rfl⟩
                rw [← hbe] at hbd ⊢
                clear hbe
                obtain ⟨R', S3⟩ := hbd
                have S2' := S2.build (.cells #[.int .i64 0] 3)
                clear S2
                clear R
                revert R' S3 S2'
                generalize V46.alloc (.cells #[.int .i64 0] 3) = V51
                intro R S3 S2
                refine wpAnyH_ready (rs := [8]) (by kernel_rfl) (by simp) (AllReadyH.cons rfl (fun K hK => ?_) AllReadyH.nil)
                refine step_append_lies _ rfl (.tmp 60) (.tmp 63) 23 rfl w.heap.size 3 i0 (.int .i64 0) 1 8 Try.underlying23 HI.out.1 HI.out.2.1 HI.out.2.2.1 HI.out.2.2.2 rfl (by decide) vb k _ rfl R.r2 ⟨b2, 0, none⟩ 1 1 [.int .i64 (xm + 1)] rfl rfl S2.news (by simp [Value.oneCell']) (by omega) (by unfold maxLen; omega) (by omega) R.size _ rfl ?_
                intro g52 cap52 V52 hown52 hgr52 hat52 _
                have R' := R.app2 hown52 hgr52 hat52
                replace S3 := S3.app2 (n := k + 1) (cap := cap52) hgr52 hat52
                refine hK.out _ _ R'.blk (fun _ => ?_)
                clear hK K
                clear R S2 hown52 hgr52 hat52
                have R := R'
                clear R'
                refine wpAnyH_ready (rs := [11]) (by kernel_rfl) (by simp) (AllReadyH.cons rfl (fun K hK => ?_) AllReadyH.nil)
                refine step_append_lies _ rfl (.tmp 65) (.tmp 66) 23 rfl w.heap.size 3 i0 (.int .i64 0) 1 8 Try.underlying23 HI.out.1 HI.out.2.1 HI.out.2.2.1 HI.out.2.2.2 rfl (by decide) vc k _ rfl R.r3 ⟨b3, 0, none⟩ 1 1 [.int .i64 0] rfl rfl S3.news (by simp [Value.oneCell']) (by omega) (by unfold maxLen; omega) (by omega) R.size _ rfl ?_
                intro g53 cap53 V53 hown53 hgr53 hat53 _
                have R' := R.app3 hown53 hgr53 hat53
                refine hK.out _ _ R'.blk (fun _ => ?_)
                clear hK K
                clear R S3 hown53 hgr53 hat53
                have R := R'
                clear R'
                refine wpAnyH_ready (rs := [16]) (by kernel_rfl) (by simp) (AllReadyH.cons rfl (fun K hK => ?_) AllReadyH.nil)
                go_simp
                refine hK.out _ _ R.blk (fun _ => ?_)
                clear hK K
                refine wpAnyH_ready (rs := [17]) (by kernel_rfl) (by simp) (AllReadyH.cons rfl (fun K hK => ?_) AllReadyH.nil)
                go_simp
                refine hK.out _ _ R.blk (fun _ => ?_)
                clear hK K
                refine wpAnyH_ready (rs := [18]) (by kernel_rfl) (by simp) (AllReadyH.cons rfl (fun K hK => ?_) AllReadyH.nil)
                go_simp
                refine hK.out _ _ R.blk (fun _ => ?_)
                clear hK K
                refine wpAnyH_ready (rs := [19]) (by kernel_rfl) (by simp) (AllReadyH.cons rfl (fun K hK => ?_) AllReadyH.nil)
                go_simp
                refine hK.out _ _ R.blk (fun _ => ?_)
                clear hK K
                refine wpAnyH_done (by kernel_rfl) ?_ _
                clear HI HJ
                go_wp2_with fail
                go_meet
                case rel => exact ⟨by rw [HWr.out], R.tri0⟩


            case q451 =>
              go_simp
              have hbd := R.build 3 #[.int .i64 0]
              refine hK.out _ _ hbd.1.blk (fun _ => ?_)
              clear hK K
              obtain ⟨b3, hbe⟩ : ∃ b, b = V44.heap.size := ⟨_, rfl⟩
              rw [← hbe] at hbd ⊢
              clear hbe
              obtain ⟨R', S3⟩ := hbd
              have S2' := S2.build (.cells #[.int .i64 0] 3)
              clear S2
              have S1' := S1.build (.cells #[.int .i64 0] 3)
              clear S1
              clear R
              revert R' S3 S2' S1'
              generalize V44.alloc (.cells #[.int .i64 0] 3) = V54
              intro R S3 S2 S1
              refine wpAnyH_ready (rs := [3]) (by kernel_rfl) (by simp) (AllReadyH.cons rfl (fun K hK => ?_) AllReadyH.nil)
              refine step_append_lies _ rfl (.tmp 56) (.tmp 58) 22 rfl w.heap.size 43 i1 _ 5 56 Try.underlying22 HJ.out.1 HJ.out.2.1 HJ.out.2.2.1 HJ.out.2.2.2 rfl (by decide) va k _ rfl R.r1 ⟨b1, 0, none⟩ 1 1 [.int .i64 (xm + 1), .int .i64 0, .int .i64 dm, .int .i64 1, .slice none 0 0] rfl rfl S1.news (by simp [Value.oneCell']) (by omega) (by unfold maxLen; omega) (by omega) R.size _ rfl ?_
              intro g55 cap55 V55 hown55 hgr55 hat55 _
              have R' := R.app1 hown55 hgr55 hat55
              replace S2 := S2.app1 (n := k + 1) (cap := cap55) hgr55 hat55
              replace S3 := S3.app1 (n := k + 1) (cap := cap55) hgr55 hat55
              refine hK.out _ _ R'.blk (fun _ => ?_)
              clear hK K
              clear R S1 hown55 hgr55 hat55
              have R := R'
              clear R'
              refine wpAnyH_ready (rs := [8]) (by kernel_rfl) (by simp) (AllReadyH.cons rfl (fun K hK => ?_) AllReadyH.nil)
              refine step_append_lies _ rfl (.tmp 60) (.tmp 63) 23 rfl w.heap.size 3 i0 (.int .i64 0) 1 8 Try.underlying23 HI.out.1 HI.out.2.1 HI.out.2.2.1 HI.out.2.2.2 rfl (by decide) vb k _ rfl R.r2 ⟨b2, 0, none⟩ 1 1 [.int .i64 (xm + 1)] rfl rfl S2.news (by simp [Value.oneCell']) (by omega) (by unfold maxLen; omega) (by omega) R.size _ rfl ?_
              intro g56 cap56 V56 hown56 hgr56 hat56 _
              have R' := R.app2 hown56 hgr56 hat56
              replace S3 := S3.app2 (n := k + 1) (cap := cap56) hgr56 hat56
              refine hK.out _ _ R'.blk (fun _ => ?_)
              clear hK K
              clear R S2 hown56 hgr56 hat56
              have R := R'
              clear R'
              refine wpAnyH_ready (rs := [11]) (by kernel_rfl) (by simp) (AllReadyH.cons rfl (fun K hK => ?_) AllReadyH.nil)
              refine step_append_lies _ rfl (.tmp 65) (.tmp 66) 23 rfl w.heap.size 3 i0 (.int .i64 0) 1 8 Try.underlying23 HI.out.1 HI.out.2.1 HI.out.2.2.1 HI.out.2.2.2 rfl (by decide) vc k _ rfl R.r3 ⟨b3, 0, none⟩ 1 1 [.int .i64 0] rfl rfl S3.news (by simp [Value.oneCell']) (by omega) (by unfold maxLen; omega) (by omega) R.size _ rfl ?_
              intro g57 cap57 V57 hown57 hgr57 hat57 _
              have R' := R.app3 hown57 hgr57 hat57
              refine hK.out _ _ R'.blk (fun _ => ?_)
              clear hK K
              clear R S3 hown57 hgr57 hat57
              have R := R'
              clear R'
              refine wpAnyH_ready (rs := [16]) (by kernel_rfl) (by simp) (AllReadyH.cons rfl (fun K hK => ?_) AllReadyH.nil)
              go_simp
              refine hK.out _ _ R.blk (fun _ => ?_)
              clear hK K
              refine wpAnyH_ready (rs := [17]) (by kernel_rfl) (by simp) (AllReadyH.cons rfl (fun K hK => ?_) AllReadyH.nil)
              go_simp
              refine hK.out _ _ R.blk (fun _ => ?_)
              clear hK K
              refine wpAnyH_ready (rs := [18]) (by kernel_rfl) (by simp) (AllReadyH.cons rfl (fun K hK => ?_) AllReadyH.nil)
              go_simp
              refine hK.out _ _ R.blk (fun _ => ?_)
              clear hK K
              refine wpAnyH_ready (rs := [19]) (by kernel_rfl) (by simp) (AllReadyH.cons rfl (fun K hK => ?_) AllReadyH.nil)
              go_simp
              refine hK.out _ _ R.blk (fun _ => ?_)
              clear hK K
              refine wpAnyH_done (by kernel_rfl) ?_ _
              clear HI HJ
              go_wp2_with fail
              go_meet
              case rel => exact ⟨by rw [HWr.out], R.tri0⟩


          case q431 =>
            go_simp
            have hbd := R.build 3 #[.int .i64 0]
            refine hK.out _ _ hbd.1.blk (fun _ => ?_)
            clear hK K
            obtain ⟨b3, hbe⟩ : ∃ b, b = V42.heap.size := ⟨_, rfl⟩
            rw [← hbe] at hbd ⊢
            clear hbe
            obtain ⟨R', S3⟩ := hbd
            have S2' := S2.build (.cells #[.int .i64 0] 3)
            clear S2
            clear R
            revert R' S3 S2'
            generalize V42.alloc (.cells #[.int .i64 0] 3) = V58
            intro R S3 S2
            refine wpAnyH_ready (rs := [2]) (by kernel_rfl) (by simp) (AllReadyH.cons rfl (fun K hK => ?_) AllReadyH.nil)
            go_simp
            have hbd := R.build 43 #[.int .i64 (xm + 1), .int .i64 0, .int .i64 dm, .int .i64 1, .slice none 0 0]
            refine hK.out _ _ hbd.1.blk (fun _ => ?_)
            clear hK K
            obtain ⟨b1, hbe⟩ : ∃ b, b = V58.heap.size := ⟨_, rfl⟩
            rw [← hbe] at hbd ⊢
            clear hbe
            obtain ⟨R', S1⟩ := hbd
            have S2' := S2.build (.cells #[.int .i64 (xm + 1), .int .i64 0, .int .i64 dm, .int .i64 1, .slice none 0 0] 43)
            clear S2
            have S3' := S3.build (.cells #[.int .i64 (xm + 1), .int .i64 0, .int .i64 dm, .int .i64 1, .slice none 0 0] 43)
            clear S3
            clear R
            revert R' S1 S2' S3'
            generalize V58.alloc (.cells #[.int .i64 (xm + 1), .int .i64 0, .int .i64 dm, .int .i64 1, .slice none 0 0] 43) = V59
            intro R S1 S2 S3
            refine wpAnyH_ready (rs := [3]) (by kernel_rfl) (by simp) (AllReadyH.cons rfl (fun K hK => ?_) AllReadyH.nil)
            refine step_append_lies _ rfl (.tmp 56) (.tmp 58) 22 rfl w.heap.size 43 i1 _ 5 56 Try.underlying22 HJ.out.1 HJ.out.2.1 HJ.out.2.2.1 HJ.out.2.2.2 rfl (by decide) va k _ rfl R.r1 ⟨b1, 0, none⟩ 1 1 [.int .i64 (xm + 1), .int .i64 0, .int .i64 dm, .int .i64 1, .slice none 0 0] rfl rfl S1.news (by simp [Value.oneCell']) (by omega) (by unfold maxLen; omega) (by omega) R.size _ rfl ?_
            intro g60 cap60 V60 hown60 hgr60 hat60 _
            have R' := R.app1 hown60 hgr60 hat60
            replace S2 := S2.app1 (n := k + 1) (cap := cap60) hgr60 hat60
            replace S3 := S3.app1 (n := k + 1) (cap := cap60) hgr60 hat60
            refine hK.out _ _ R'.blk (fun _ => ?_)
            clear hK K
            clear R S1 hown60 hgr60 hat60
            have R := R'
            clear R'
            refine wpAnyH_ready (rs := [8]) (by kernel_rfl) (by simp) (AllReadyH.cons rfl (fun K hK => ?_) AllReadyH.nil)
            refine step_append_lies _ rfl (.tmp 60) (.tmp 63) 23 rfl w.heap.size 3 i0 (.int .i64 0) 1 8 Try.underlying23 HI.out.1 HI.out.2.1 HI.out.2.2.1 HI.out.2.2.2 rfl (by decide) vb k _ rfl R.r2 ⟨b2, 0, none⟩ 1 1 [.int .i64 (xm + 1)] rfl rfl S2.news (by simp [Value.oneCell']) (by omega) (by unfold maxLen; omega) (by omega) R.size _ rfl ?_
            intro g61 cap61 V61 hown61 hgr61 hat61 _
            have R' := R.app2 hown61 hgr61 hat61
            replace S3 := S3.app2 (n := k + 1) (cap := cap61) hgr61 hat61
            refine hK.out _ _ R'.blk (fun _ => ?_)
            clear hK K
            clear R S2 hown61 hgr61 hat61
            have R := R'
            clear R'
            refine wpAnyH_ready (rs := [11]) (by kernel_rfl) (by simp) (AllReadyH.cons rfl (fun K hK => ?_) AllReadyH.nil)
            refine step_append_lies _ rfl (.tmp 65) (.tmp 66) 23 rfl w.heap.size 3 i0 (.int .i64 0) 1 8 Try.underlying23 HI.out.1 HI.out.2.1 HI.out.2.2.1 HI.out.2.2.2 rfl (by decide) vc k _ rfl R.r3 ⟨b3, 0, none⟩ 1 1 [.int .i64 0] rfl rfl S3.news (by simp [Value.oneCell']) (by omega) (by unfold maxLen; omega) (by omega) R.size _ rfl ?_
            intro g62 cap62 V62 hown62 hgr62 hat62 _
            have R' := R.app3 hown62 hgr62 hat62
            refine hK.out _ _ R'.blk (fun _ => ?_)
            clear hK K
            clear R S3 hown62 hgr62 hat62
            have R := R'
            clear R'
            refine wpAnyH_ready (rs := [16]) (by kernel_rfl) (by simp) (AllReadyH.cons rfl (fun K hK => ?_) AllReadyH.nil)
            go_simp
            refine hK.out _ _ R.blk (fun _ => ?_)
            clear hK K
            refine wpAnyH_ready (rs := [17]) (by kernel_rfl) (by simp) (AllReadyH.cons rfl (fun K hK => ?_) AllReadyH.nil)
            go_simp
            refine hK.out _ _ R.blk (fun _ => ?_)
            clear hK K
            refine wpAnyH_ready (rs := [18]) (by kernel_rfl) (by simp) (AllReadyH.cons rfl (fun K hK => ?_) AllReadyH.nil)
            go_simp
            refine hK.out _ _ R.blk (fun _ => ?_)
            clear hK K
            refine wpAnyH_ready (rs := [19]) (by kernel_rfl) (by simp) (AllReadyH.cons rfl (fun K hK => ?_) AllReadyH.nil)
            go_simp
            refine hK.out _ _ R.blk (fun _ => ?_)
            clear hK K
            refine wpAnyH_done (by kernel_rfl) ?_ _
            clear HI HJ
            go_wp2_with fail
            go_meet
            case rel => exact ⟨by rw [HWr.out], R.tri0⟩


        case q12 =>
          go_simp
          have hbd := R.build 3 #[.int .i64 0]
          refine hK.out _ _ hbd.1.blk (fun _ => ?_)
          clear hK K
          obtain ⟨b3, hbe⟩ : ∃ b, b = V0.heap.size := ⟨_, rfl⟩
          rw [← hbe] at hbd ⊢
          clear hbe
          obtain ⟨R', S3⟩ := hbd
          clear R
          revert R' S3
          generalize V0.alloc (.cells #[.int .i64 0] 3) = V63
          intro R S3
          refine wpAnyH_ready (rs := [2, 7]) (by kernel_rfl) (by simp) (AllReadyH.cons rfl (fun K hK => ?q640) (AllReadyH.cons rfl (fun K hK => ?q641) AllReadyH.nil))
          case q640 =>
            go_simp
            have hbd := R.build 43 #[.int .i64 (xm + 1), .int .i64 0, .int .i64 dm, .int .i64 1, .slice none 0 0]
            refine hK.out _ _ hbd.1.blk (fun _ => ?_)
            clear hK K
            obtain ⟨b1, hbe⟩ : ∃ b, b = V63.heap.size := ⟨_, rfl⟩
            rw [← hbe] at hbd ⊢
            clear hbe
            obtain ⟨R', S1⟩ := hbd
            have S3' := S3.build (.cells #[.int .i64 (xm + 1), .int .i64 0, .int .i64 dm, .int .i64 1, .slice none 0 0] 43)
            clear S3
            clear R
            revert R' S1 S3'
            generalize V63.alloc (.cells #[.int .i64 (xm + 1), .int .i64 0, .int .i64 dm, .int .i64 1, .slice none 0 0] 43) = V65
            intro R S1 S3
            refine wpAnyH_ready (rs := [3, 7]) (by kernel_rfl) (by simp) (AllReadyH.cons rfl (fun K hK => ?q660) (AllReadyH.cons rfl (fun K hK => ?q661) AllReadyH.nil))
            case q660 =>
              refine step_append_lies _ rfl (.tmp 56) (.tmp 58) 22 rfl w.heap.size 43 i1 _ 5 56 Try.underlying22 HJ.out.1 HJ.out.2.1 HJ.out.2.2.1 HJ.out.2.2.2 rfl (by decide) va k _ rfl R.r1 ⟨b1, 0, none⟩ 1 1 [.int .i64 (xm + 1), .int .i64 0, .int .i64 dm, .int .i64 1, .slice none 0 0] rfl rfl S1.news (by simp [Value.oneCell']) (by omega) (by unfold maxLen; omega) (by omega) R.size _ rfl ?_
              intro g67 cap67 V67 hown67 hgr67 hat67 _
              have R' := R.app1 hown67 hgr67 hat67
              replace S3 := S3.app1 (n := k + 1) (cap := cap67) hgr67 hat67
              refine hK.out _ _ R'.blk (fun _ => ?_)
              clear hK K
              clear R S1 hown67 hgr67 hat67
              have R := R'
              clear R'
              refine wpAnyH_ready (rs := [7]) (by kernel_rfl) (by simp) (AllReadyH.cons rfl (fun K hK => ?_) AllReadyH.nil)
              go_simp
              have hbd := R.build 3 #[.int .i64 (xm + 1)]
              refine hK.out _ _ hbd.1.blk (fun _ => ?_)
              clear hK K
              obtain ⟨b2, hbe⟩ : ∃ b, b = V67.heap.size := ⟨_, rfl⟩
              rw [← hbe] at hbd ⊢
              clear hbe
              obtain ⟨R', S2⟩ := hbd
              have S3' := S3.build (.cells #[.int .i64 (xm + 1)] 3)
              clear S3
              clear R
              revert R' S2 S3'
              generalize V67.alloc (.cells #[.int .i64 (xm + 1)] 3) = V68
              intro R S2 S3
              refine wpAnyH_ready (rs := [8]) (by kernel_rfl) (by simp) (AllReadyH.cons rfl (fun K hK => ?_) AllReadyH.nil)
              refine step_append_lies _ rfl (.tmp 60) (.tmp 63) 23 rfl w.heap.size 3 i0 (.int .i64 0) 1 8 Try.underlying23 HI.out.1 HI.out.2.1 HI.out.2.2.1 HI.out.2.2.2 rfl (by decide) vb k _ rfl R.r2 ⟨b2, 0, none⟩ 1 1 [.int .i64 (xm + 1)] rfl rfl S2.news (by simp [Value.oneCell']) (by omega) (by unfold maxLen; omega) (by omega) R.size _ rfl ?_
              intro g69 cap69 V69 hown69 hgr69 hat69 _
              have R' := R.app2 hown69 hgr69 hat69
              replace S3 := S3.app2 (n := k + 1) (cap := cap69) hgr69 hat69
              refine hK.out _ _ R'.blk (fun _ => ?_)
              clear hK K
              clear R S2 hown69 hgr69 hat69
              have R := R'
              clear R'
              refine wpAnyH_ready (rs := [11]) (by kernel_rfl) (by simp) (AllReadyH.cons rfl (fun K hK => ?_) AllReadyH.nil)
              refine step_append_lies _ rfl (.tmp 65) (.tmp 66) 23 rfl w.heap.size 3 i0 (.int .i64 0) 1 8 Try.underlying23 HI.out.1 HI.out.2.1 HI.out.2.2.1 HI.out.2.2.2 rfl (by decide) vc k _ rfl R.r3 ⟨b3, 0, none⟩ 1 1 [.int .i64 0] rfl rfl S3.news (by simp [Value.oneCell']) (by omega) (by unfold maxLen; omega) (by omega) R.size _ rfl ?_
              intro g70 cap70 V70 hown70 hgr70 hat70 _
              have R' := R.app3 hown70 hgr70 hat70
              refine hK.out _ _ R'.blk (fun _ => ?_)
              clear hK K
              clear R S3 hown70 hgr70 hat70
              have R := R'
              clear R'
              refine wpAnyH_ready (rs := [16]) (by kernel_rfl) (by simp) (AllReadyH.cons rfl (fun K hK => ?_) AllReadyH.nil)
              go_simp
              refine hK.out _ _ R.blk (fun _ => ?_)
              clear hK K
              refine wpAnyH_ready (rs := [17]) (by kernel_rfl) (by simp) (AllReadyH.cons rfl (fun K hK => ?_) AllReadyH.nil)
              go_simp
              refine hK.out _ _ R.blk (fun _ => ?_)
              clear hK K
              refine wpAnyH_ready (rs := [18]) (by kernel_rfl) (by simp) (AllReadyH.cons rfl (fun K hK => ?_) AllReadyH.nil)
              go_simp
              refine hK.out _ _ R.blk (fun _ => ?_)
              clear hK K
              refine wpAnyH_ready (rs := [19]) (by kernel_rfl) (by simp) (AllReadyH.cons rfl (fun K hK => ?_) AllReadyH.nil)
              go_simp
              refine hK.out _ _ R.blk (fun _ => ?_)
              clear hK K
              refine wpAnyH_done (by kernel_rfl) ?_ _
              clear HI HJ
              go_wp2_with fail
              go_meet
              case rel => exact ⟨by rw [HWr.out], R.tri0⟩

            case q661 =>
              go_simp
              have hbd := R.build 3 #[.int .i64 (xm + 1)]
              refine hK.out _ _ hbd.1.blk (fun _ => ?_)
              clear hK K
              obtain ⟨b2, hbe⟩ : ∃ b, b = V65.heap.size := ⟨_, rfl⟩
              rw [← hbe] at hbd ⊢
              clear hbe
              obtain ⟨R', S2⟩ := hbd
              have S3' := S3.build (.cells #[.int .i64 (xm + 1)] 3)
              clear S3
              have S1' := S1.build (.cells #[.int .i64 (xm + 1)] 3)
              clear S1
              clear R
              revert R' S2 S3' S1'
              generalize V65.alloc (.cells #[.int .i64 (xm + 1)] 3) = V71
              intro R S2 S3 S1
              refine wpAnyH_ready (rs := [3]) (by kernel_rfl) (by simp) (AllReadyH.cons rfl (fun K hK => ?_) AllReadyH.nil)
              refine step_append_lies _ rfl (.tmp 56) (.tmp 58) 22 rfl w.heap.size 43 i1 _ 5 56 Try.underlying22 HJ.out.1 HJ.out.2.1 HJ.out.2.2.1 HJ.out.2.2.2 rfl (by decide) va k _ rfl R.r1 ⟨b1, 0, none⟩ 1 1 [.int .i64 (xm + 1), .int .i64 0, .int .i64 dm, .int .i64 1, .slice none 0 0] rfl rfl S1.news (by simp [Value.oneCell']) (by omega) (by unfold maxLen; omega) (by omega) R.size _ rfl ?_
              intro g72 cap72 V72 hown72 hgr72 hat72 _
              have R' := R.app1 hown72 hgr72 hat72
              replace S3 := S3.app1 (n := k + 1) (cap := cap72) hgr72 hat72
              replace S2 := S2.app1 (n := k + 1) (cap := cap72) hgr72 hat72
              refine hK.out _ _ R'.blk (fun _ => ?_)
              clear hK K
              clear R S1 hown72 hgr72 hat72
              have R := R'
              clear R'
              refine wpAnyH_ready (rs := [8]) (by kernel_rfl) (by simp) (AllReadyH.cons rfl (fun K hK => ?_) AllReadyH.nil)
              refine step_append_lies _ rfl (.tmp 60) (.tmp 63) 23 rfl w.heap.size 3 i0 (.int .i64 0) 1 8 Try.underlying23 HI.out.1 HI.out.2.1 HI.out.2.2.1 HI.out.2.2.2 rfl (by decide) vb k _ rfl R.r2 ⟨b2, 0, none⟩ 1 1 [.int .i64 (xm + 1)] rfl rfl S2.news (by simp [Value.oneCell']) (by omega) (by unfold maxLen; omega) (by omega) R.size _ rfl ?_
              intro g73 cap73 V73 hown73 hgr73 hat73 _
              have R' := R.app2 hown73 hgr73 hat73
              replace S3 := S3.app2 (n := k + 1) (cap := cap73) hgr73 hat73
              refine hK.out _ _ R'.blk (fun _ => ?_)
              clear hK K
              clear R S2 hown73 hgr73 hat73
              have R := R'
              clear R'
              refine wpAnyH_ready (rs := [11]) (by kernel_rfl) (by simp) (AllReadyH.cons rfl (fun K hK => ?_) AllReadyH.nil)
              refine step_append_lies _ rfl (.tmp 65) (.tmp 66) 23 rfl w.heap.size 3 i0 (.int .i64 0) 1 8 Try.underlying23 HI.out.1 HI.out.2.1 HI.out.2.2.1 HI.out.2.2.2 rfl (by decide) vc k _ rfl R.r3 ⟨b3, 0, none⟩ 1 1 [.int .i64 0] rfl rfl S3.news (by simp [Value.oneCell']) (by omega) (by unfold maxLen; omega) (by omega) R.size _ rfl ?_
              intro g74 cap74 V74 hown74 hgr74 hat74 _
              have R' := R.app3 hown74 hgr74 hat74
              refine hK.out _ _ R'.blk (fun _ => ?_)
              clear hK K
              clear R S3 hown74 hgr74 hat74
              have R := R'
              clear R'
              refine wpAnyH_ready (rs := [16]) (by kernel_rfl) (by simp) (AllReadyH.cons rfl (fun K hK => ?_) AllReadyH.nil)
              go_simp
              refine hK.out _ _ R.blk (fun _ => ?_)
              clear hK K
              refine wpAnyH_ready (rs := [17]) (by kernel_rfl) (by simp) (AllReadyH.cons rfl (fun K hK => ?_) AllReadyH.nil)
              go_simp
              refine hK.out _ _ R.blk (fun _ => ?_)
              clear hK K
              refine wpAnyH_ready (rs := [18]) (by kernel_rfl) (by simp) (AllReadyH.cons rfl (fun K hK => ?_) AllReadyH.nil)
              go_simp
              refine hK.out _ _ R.blk (fun _ => ?_)
              clear hK K
              refine wpAnyH_ready (rs := [19]) (by kernel_rfl) (by simp) (AllReadyH.cons rfl (fun K hK => ?_) AllReadyH.nil)
              go_simp
              refine hK.out _ _ R.blk (fun _ => ?_)
              clear hK K
              refine wpAnyH_done (by kernel_rfl) ?_ _
              clear HI HJ
              go_wp2_with fail
              go_meet
              case rel => exact ⟨by rw [HWr.out], R.tri0⟩


          case q641 =>
            go_simp
            have hbd := R.build 3 #[.int .i64 (xm + 1)]
            refine hK.out _ _ hbd.1.blk (fun _ => ?_)
            clear hK K
            obtain ⟨b2, hbe⟩ : ∃ b, b = V63.heap.size := ⟨_, rfl⟩
            rw [← hbe] at hbd ⊢
            clear hbe
            obtain ⟨R', S2⟩ := hbd
            have S3' := S3.build (.cells #[.int .i64 (xm + 1)] 3)
            clear S3
            clear R
            revert R' S2 S3'
            generalize V63.alloc (.cells #[.int .i64 (xm + 1)] 3) = V75
            intro R S2 S3
            refine wpAnyH_ready (rs := [2]) (by kernel_rfl) (by simp) (AllReadyH.cons rfl (fun K hK => ?_) AllReadyH.nil)
            go_simp
            have hbd := R.build 43 #[.int .i64 (xm + 1), .int .i64 0, .int .i64 dm, .int .i64 1, .slice none 0 0]
            refine hK.out _ _ hbd.1.blk (fun _ => ?_)
            clear hK K
            obtain ⟨b1, hbe⟩ : ∃ b, b = V75.heap.size := ⟨_, rfl⟩
            rw [← hbe] at hbd ⊢
            clear hbe
            obtain ⟨R', S1⟩ := hbd
            have S3' := S3.build (.cells #[.int .i64 (xm + 1), .int .i64 0, .int .i64 dm, .int .i64 1, .slice none 0 0] 43)
            clear S3
            have S2' := S2.build (.cells #[.int .i64 (xm + 1), .int .i64 0, .int .i64 dm, .int .i64 1, .slice none 0 0] 43)
            clear S2
            clear R
            revert R' S1 S3' S2'
            generalize V75.alloc (.cells #[.int .i64 (xm + 1), .int .i64 0, .int .i64 dm, .int .i64 1, .slice none 0 0] 43) = V76
            intro R S1 S3 S2
            refine wpAnyH_ready (rs := [3]) (by kernel_rfl) (by simp) (AllReadyH.cons rfl (fun K hK => ?_) AllReadyH.nil)
            refine step_append_lies _ rfl (.tmp 56) (.tmp 58) 22 rfl w.heap.size 43 i1 _ 5 56 Try.underlying22 HJ.out.1 HJ.out.2.1 HJ.out.2.2.1 HJ.out.2.2.2 rfl (by decide) va k _ rfl R.r1 ⟨b1, 0, none⟩ 1 1 [.int .i64 (xm + 1), .int .i64 0, .int .i64 dm, .int .i64 1, .slice none 0 0] rfl rfl S1.news (by simp [Value.oneCell']) (by omega) (by unfold maxLen; omega) (by omega) R.size _ rfl ?_
            intro g77 cap77 V77 hown77 hgr77 hat77 _
            have R' := R.app1 hown77 hgr77 hat77
            replace S3 := S3.app1 (n := k + 1) (cap := cap77) hgr77 hat77
            replace S2 := S2.app1 (n := k + 1) (cap := cap77) hgr77 hat77
            refine hK.out _ _ R'.blk (fun _ => ?_)
            clear hK K
            clear R S1 hown77 hgr77 hat77
            have R := R'
            clear R'
            refine wpAnyH_ready (rs := [8]) (by kernel_rfl) (by simp) (AllReadyH.cons rfl (fun K hK => ?_) AllReadyH.nil)
            refine step_append_lies _ rfl (.tmp 60) (.tmp 63) 23 rfl w.heap.size 3 i0 (.int .i64 0) 1 8 Try.underlying23 HI.out.1 HI.out.2.1 HI.out.2.2.1 HI.out.2.2.2 rfl (by decide) vb k _ rfl R.r2 ⟨b2, 0, none⟩ 1 1 [.int .i64 (xm + 1)] rfl rfl S2.news (by simp [Value.oneCell']) (by omega) (by unfold maxLen; omega) (by omega) R.size _ rfl ?_
            intro g78 cap78 V78 hown78 hgr78 hat78 _
            have R' := R.app2 hown78 hgr78 hat78
            replace S3 := S3.app2 (n := k + 1) (cap := cap78) hgr78 hat78
            refine hK.out _ _ R'.blk (fun _ => ?_)
            clear hK K
            clear R S2 hown78 hgr78 hat78
            have R := R'
            clear R'
            refine wpAnyH_ready (rs := [11]) (by kernel_rfl) (by simp) (AllReadyH.cons rfl (fun K hK => ?_) AllReadyH.nil)
            refine step_append_lies _ rfl (.tmp 65) (.tmp 66) 23 rfl w.heap.size 3 i0 (.int .i64 0) 1 8 Try.underlying23 HI.out.1 HI.out.2.1 HI.out.2.2.1 HI.out.2.2.2 rfl (by decide) vc k _ rfl R.r3 ⟨b3, 0, none⟩ 1 1 [.int .i64 0] rfl rfl S3.news (by simp [Value.oneCell']) (by omega) (by unfold maxLen; omega) (by omega) R.size _ rfl ?_
            intro g79 cap79 V79 hown79 hgr79 hat79 _
            have R' := R.app3 hown79 hgr79 hat79
            refine hK.out _ _ R'.blk (fun _ => ?_)
            clear hK K
            clear R S3 hown79 hgr79 hat79
            have R := R'
            clear R'
            refine wpAnyH_ready (rs := [16]) (by kernel_rfl) (by simp) (AllReadyH.cons rfl (fun K hK => ?_) AllReadyH.nil)
            go_simp
            refine hK.out _ _ R.blk (fun _ => ?_)
            clear hK K
            refine wpAnyH_ready (rs := [17]) (by kernel_rfl) (by simp) (AllReadyH.cons rfl (fun K hK => ?_) AllReadyH.nil)
            go_simp
            refine hK.out _ _ R.blk (fun _ => ?_)
            clear hK K
            refine wpAnyH_ready (rs := [18]) (by kernel_rfl) (by simp) (AllReadyH.cons rfl (fun K hK => ?_) AllReadyH.nil)
            go_simp
            refine hK.out _ _ R.blk (fun _ => ?_)
            clear hK K
            refine wpAnyH_ready (rs := [19]) (by kernel_rfl) (by simp) (AllReadyH.cons rfl (fun K hK => ?_) AllReadyH.nil)
            go_simp
            refine hK.out _ _ R.blk (fun _ => ?_)
            clear hK K
            refine wpAnyH_done (by kernel_rfl) ?_ _
            clear HI HJ
            go_wp2_with fail
            go_meet
            case rel => exact ⟨by rw [HWr.out], R.tri0⟩



      case rest =>
        obtain ⟨rfl, hT2⟩ := hcut
        have HT2 := Lib.hid hT2
        clear hT2 hT
        first | go_back | go_step
        go_wp2_with fail
        go_roundw
        case rel =>
          have e0 : (p ++ [(xm + 1, dm)]).length = k + 1 := by rw [List.length_append, ← HK.out]; rfl
          refine ⟨p ++ [(xm + 1, dm)], HP.out.snoc (by omega) (by omega) (by omega) (by omega), by omega, by omega, by rw [e0]; go_num, by rw [sumW_snoc], ?_⟩
          have h := HT2.out
          rw [e0, List.map_append, List.map_append, List.replicate_succ', List.map_append]
          rw [show k + 1 = p.length + 1 by rw [HK.out], mkJs_snoc, ← HK.out]
          exact h
        case measure => simp [intOf]; omega

    · have hcase : (decide ((k : Int) < (n : Int)) = false ∧ ¬ (k : Int) < (n : Int)) ∨ (decide ((k : Int) < (n : Int)) = true ∧ (k : Int) < (n : Int) ∧ decide ((k : Int) < 24) = false) := by
        simp only [decide_eq_true_eq, decide_eq_false_iff_not]; omega
      have hk64 : k ≤ 64 := by omega
      have hJ0 : JobsH wr (some ⟨0, 0, none⟩) 0 [] := ⟨rfl, fun h => absurd h (by omega)⟩
      obtain ⟨A3, c3, e3⟩ := own_slice hT.r1
      obtain ⟨A4, c4, e4⟩ := own_slice hT.r2
      obtain ⟨A5, c5, e5⟩ := own_slice hT.r3
      subst e3 e4 e5
      have hJ : JobsH wr A3 k (mkJs p) := own_jobs hT.r1 (by rw [HK.out]; simp [mkJs]) (by rw [HK.out]; exact afters_nil wr p)
      have rF := own_rowH hT.r2
      have rS := own_rowH hT.r3
      have hw0 := hT.hb
      have hba : Below wr.heap.size wr (wr.alloc (.cells #[.int .i64 3, .int .i64 0, .int .i64 0, .int .i64 1, .slice none 0 0, .int .i64 1, .int .i64 0, .int .i64 0, .int .i64 1, .slice none 0 0] 43)) := (Below.refl _ _).alloc (Nat.le_refl _) _
      have M1 := Lib.hid (Smith_yes (some ⟨wr.heap.size, 0, none⟩) 2 2 LJ _ (jobs_lit wr) (by decide))
      have hw1 := hw0.trans (hba.mono hw0.size)
      have hJ1 := hJ.later hba
      have rF1 := rF.later hba
      have rS1 := rS.later hba
      have HPl := Lib.hid (show Plain (mkJs p) k by rw [HK.out]; exact mkJs_plain HP.out (by rw [← HK.out]; exact hk64))
      clear hJ0 hT hJ rF rS hw0 hba h1
      rcases hcase with ⟨x1, x2⟩ | ⟨x1, x2, x3⟩
      all_goals
        go_wp2_with fail
        refine M1.out.mono ?_
        rintro e w1 ⟨R, o, rfl, hP, hS, _, hb1⟩
        obtain rfl := lives_smith hP hS
        have e5 : wsum LJ 0 [1, 0] = 5 := by decide
        rw [e5]
        have hw2 := hw1.trans (hb1.mono hw1.size)
        have hJ2 := hJ1.later hb1
        have rF2 := rF1.later hb1
        have rS2 := rS1.later hb1
        clear M1 hP hS e5 hb1 hw1 hJ1 rF1 rS1
        by_cases h0 : k = 0
        · have z0 : ((k : Int) == 0) = true := by simp [h0]
          subst h0
          go_wp2_with fail
          go_ret
          exact ⟨rfl, hw2⟩
        · have z0 : ((k : Int) == 0) = false := by simp; omega
          have hk0 : 0 < k := by omega
          have S1 := Lib.hid (Sweep_yes A3 k c3 (mkJs p) w1 hJ2 HPl.out.valid)
          go_wp2_with fail
          refine S1.out.mono ?_
          rintro e w2 ⟨v1, s, m, rfl, hRe, hDo, hLm, _, hb2⟩
          have HRe := Lib.hid hRe
          have HDo := Lib.hid hDo
          have HLm := Lib.hid hLm
          have hw3 := hw2.trans (hb2.mono hw2.size)
          have hJ3 := hJ2.later hb2
          have rF3 := rF2.later hb2
          have rS3 := rS2.later hb2
          have L1 := Lib.hid (Lawler_yes A3 k c3 (mkJs p) w2 hJ3 HPl.out.valid)
          clear S1 hRe hDo hLm hw2 hJ2 rF2 rS2 hb2
          go_wp2_with fail
          refine L1.out.mono ?_
          rintro e w3 ⟨O, o, rfl, hG, ho, _, hb3⟩
          have hlate := HPl.out.lawler hk0 HRe.out HDo.out HLm.out hG ho
          rw [← hlate]
          have hw4 := hw3.trans (hb3.mono hw3.size)
          have hJ4 := hJ3.later hb3
          have rF4 := rF3.later hb3
          have rS4 := rS3.later hb3
          have O1 := Lib.hid (OnTime_yes A3 k c3 (mkJs p) w3 hJ4 HPl.out.valid)
          clear L1 hG ho hlate hw3 hJ3 rF3 rS3 hb3
          obtain ⟨mo, hmo⟩ : ∃ mo, mo = max m 0 := ⟨_, rfl⟩
          rw [← hmo]
          have HMo := Lib.hid hmo
          clear hmo
          go_wp2_with fail
          refine O1.out.mono ?_
          rintro e w4 ⟨B1, q, d1, o1, rfl, hq1, hr1, ha1, ht1, hb4⟩
          have hon := Lib.hid (HPl.out.ontime hk0 HRe.out HDo.out HLm.out hr1 ha1 hq1.1 ht1)
          have hw5 := hw4.trans (hb4.mono hw4.size)
          have hJ5 := hJ4.later hb4
          have rF5 := rF4.later hb4
          have rS5 := rS4.later hb4
          have hsf : Small (p.map (·.1)) := small_lit fun y hy => by
            obtain ⟨z, hz, rfl⟩ := List.mem_map.1 hy
            have := HP.out z hz
            omega
          have hss : Small (List.replicate k (0 : Int)) := small_lit fun y hy => by
            have := List.eq_of_mem_replicate hy
            omega
          have J1 := Lib.hid (Johnson_yes A4 A5 k c4 c5 (p.map (·.1)) (List.replicate k (0 : Int)) w4 rF5 rS5 hsf hss hk64)
          have HSf := Lib.hid hsf
          clear O1 hq1 hr1 ha1 ht1 hw4 hJ4 rF4 rS4 hb4 hsf hss
          go_wp2_with fail
          refine J1.out.mono ?_
          rintro e w5 ⟨R1, o2, rfl, hP1, _, _, hb5⟩
          have hlen : lenF (p.map (·.1)) (List.replicate k (0 : Int)) 0 0 o2 = sumW p := by
            rw [lenF_sum (fun i => (HSf.out i).1) (fun i => iat_zero k i) o2 0, sums_perm hP1, Int.zero_add, HK.out]
            exact sums_works p
          rw [hlen]
          have hw6 := hw5.trans (hb5.mono hw5.size)
          have hJ6 := hJ5.later hb5
          have C1 := Lib.hid (Crowded_yes A3 k c3 (mkJs p) w5 hJ6 HPl.out.valid hk0)
          clear J1 HSf hP1 hlen hw5 hJ5 rF5 rS5 hb5
          obtain ⟨cw, hcw⟩ : ∃ cw, cw = cwAll (mkJs p) k k := ⟨_, rfl⟩
          have hcr := HLm.out.crowd HPl.out.valid HPl.out.wk HRe.out HDo.out hk0
          have hco := CwOk.all (l := mkJs p) (n := k) k (Nat.le_refl _)
          rw [← hcw] at C1 hcr hco
          obtain ⟨y1, y2, y3⟩ := hcr
          obtain ⟨i', k', hi', hk', hr, hd, _, _⟩ := hco.some_ y1
          have hr0 : cw.r = 0 := by rw [hr]; exact HPl.out.rel i' (by omega) (by omega)
          have hdb := (jat_calm HPl.out.valid k').2.2
          rw [← hd] at hdb
          rw [hr0] at C1 y3
          obtain ⟨dd, hdd⟩ : ∃ dd, dd = cw.d := ⟨_, rfl⟩
          rw [← hdd] at C1 y3 hdb
          have HY3 := Lib.hid y3
          have b0 := hdb.1
          have b1 := hdb.2.1
          clear hcw hco y1 y2 y3 hr hd hr0 hdb hdd
          go_wp2_with fail
          refine C1.out.mono ?_
          rintro e w6 ⟨rfl, hb6⟩
          have hw7 := hw6.trans (hb6.mono hw6.size)
          have hJ7 := hJ6.later hb6
          clear C1 hw6 hJ6 hb6
          go_wp2_with fail
          go_loopw [27, 28] (fun u27 u28 wx => ∃ j : Nat, j ≤ k ∧ u28 = .int .i64 j ∧ u27 = .int .i64 (winS (mkJs p) 0 dd j) ∧ w6 = wx) (fun _ i _ => k - (intOf i).toNat)
          case atStart => exact ⟨0, Nat.zero_le _, rfl, rfl, rfl⟩
          case round =>
            obtain ⟨j, hj, rfl, rfl, rfl⟩ := hrel
            have t0 := winS_nonneg (l := mkJs p) (r := 0) (d := dd) (k := j) fun i => (jat_calm HPl.out.valid i).1
            have t1 := winS_cap HPl.out.valid 0 dd j
            by_cases hjk : j < k
            · have hbj : decide ((j : Int) < (k : Int)) = true := by simp; omega
              have hbj2 : (j : Int) < (k : Int) := by omega
              obtain ⟨g, B, mB, cB, e1, _, hj', c0, _, c2, _, _, _⟩ := hJ7.both (Below.refl _ _) hjk
              subst e1
              have hW := Lib.hid (winS_succ (mkJs p) 0 dd j)
              have hrl := HPl.out.rel j (by omega) hbj2
              rw [hrl] at hW
              have hcm := jat_calm HPl.out.valid j
              have f0 := hcm.1
              have f1 := hcm.2.1
              clear hcm hj' hrl
              obtain ⟨xw, hxw⟩ : ∃ xw, xw = (jat (mkJs p) j).work := ⟨_, rfl⟩
              obtain ⟨xd, hxd⟩ : ∃ xd, xd = (jat (mkJs p) j).due := ⟨_, rfl⟩
              rw [← hxw] at c0 hW f0 f1
              rw [← hxd] at c2 hW
              obtain ⟨sw, hsw⟩ : ∃ sw, sw = winS (mkJs p) 0 dd j := ⟨_, rfl⟩
              rw [← hsw] at hW t0 t1 ⊢
              clear hxw hxd hsw
              by_cases g2 : xd ≤ dd
              · have u2 : decide (xd ≤ dd) = true := decide_eq_true g2
                have hW2 : Hid (winS (mkJs p) 0 dd (j + 1) = sw + xw) := by show _ = _; rw [hW.out, if_pos ⟨Int.le_refl _, g2⟩]
                clear hW
                go_wp2_with fail
                go_roundw
                case rel => exact ⟨j + 1, by omega, by go_num, by rw [hW2.out], trivial⟩
                case measure => simp [intOf]; omega
              · have u2 : decide (xd ≤ dd) = false := decide_eq_false g2
                have hW2 : Hid (winS (mkJs p) 0 dd (j + 1) = sw) := by show _ = _; rw [hW.out, if_neg (fun h => g2 h.2), Int.add_zero]
                clear hW
                go_wp2_with fail
                go_roundw
                case rel => exact ⟨j + 1, by omega, by go_num, by rw [hW2.out], trivial⟩
                case measure => simp [intOf]; omega
            · obtain rfl : j = k := by omega
              have hbj : decide ((j : Int) < (j : Int)) = false := by simp
              obtain ⟨sw, hsw⟩ : ∃ sw, sw = winS (mkJs p) 0 dd j := ⟨_, rfl⟩
              have hy := HY3.out
              rw [← hsw] at t0 t1 hy ⊢
              have hy2 : sw - dd = m := by omega
              have n1 := eqb_self6 (sumW p)
              have n2 := eqb_self6 m
              clear hy hsw HY3
              rcases Int.lt_trichotomy m 0 with hm0 | hm0 | hm0
              · have hmo : mo = 0 := by have := HMo.out; omega
                have hq : q = j := hon.out.1 (by omega)
                subst hmo hq
                have g1 : decide (m ≤ 0) = true := decide_eq_true (by omega)
                have g2 := eqb_self6 (q : Int)
                go_wp2_with fail
                go_ret
                exact ⟨rfl, hw7⟩
              · have hmo : mo = 0 := by have := HMo.out; omega
                have hq : q = j := hon.out.1 (by omega)
                subst hmo hq
                have g1 : decide (m ≤ 0) = true := decide_eq_true (by omega)
                have g2 := eqb_self6 (q : Int)
                go_wp2_with fail
                go_ret
                exact ⟨rfl, hw7⟩
              · have hmo : mo = m := by have := HMo.out; omega
                have hq : q ≠ j := fun e => by have := hon.out.2 e; omega
                subst hmo
                have g1 : decide (mo ≤ 0) = false := decide_eq_false (by omega)
                have g2 : ((q : Int) == (j : Int)) = false := by simp; omega
                go_wp2_with fail
                go_ret
                exact ⟨rfl, hw7⟩
end Go.Proofs.Ytnfcigbiebbjdaa
