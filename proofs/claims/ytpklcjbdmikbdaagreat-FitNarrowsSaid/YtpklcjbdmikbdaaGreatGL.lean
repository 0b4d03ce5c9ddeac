/-
  The seat's texts PartW AlwW RStk RGap ChoW CntP Light in one: the contracts of the functions that the law reaches, and the plain laws that they rest on.
  Conditions: as each theorem states them.
-/
import Derived.Test.YtpklcjbdmikbdaaGreatGO
import Derived.Test.YtpklcjbdmikbdaaGreatGS
import Derived.Deep.CutBlock
import Derived.Deep.CutRange
import Derived.Deep.RegionHeld3
import Derived.BigRegion
import Derived.Test.YtpklcjbdmikbdaaGreatGM
namespace Go.Proofs.YtpklcjbdmikbdaaGreat
set_option maxRecDepth 100000
open Go.RowKit

def pcells : List Prt → List Value
  | [] => []
  | p :: l => .int .i64 p.lo :: .int .i64 p.hi :: .bool p.neg :: pcells l
theorem pcells_len : ∀ l : List Prt, (pcells l).length = l.length * 3
  | [] => rfl
  | p :: l => by simp only [pcells, List.length_cons, pcells_len l]; omega
theorem pcells_at : ∀ {l : List Prt} {k : Nat} {p : Prt}, l[k]? = some p → (pcells l)[k * 3]? = some (.int .i64 p.lo) ∧ (pcells l)[k * 3 + 1]? = some (.int .i64 p.hi) ∧ (pcells l)[k * 3 + 2]? = some (.bool p.neg)
  | [], _, _, h => by simp at h
  | q :: l, 0, p, h => by
    obtain rfl : q = p := by simpa using h
    exact ⟨rfl, rfl, rfl⟩
  | q :: l, k + 1, p, h => by
    have h' : l[k]? = some p := by simpa using h
    obtain ⟨a, b, c⟩ := pcells_at h'
    rw [show (k + 1) * 3 = k * 3 + 3 by omega]
    exact ⟨a, b, c⟩
theorem pcells_of : ∀ {l : List Prt} {j : Nat} {u : Value}, (pcells l)[j]? = some u → ∃ (k : Nat) (p : Prt), l[k]? = some p ∧ ((j = k * 3 ∧ u = .int .i64 p.lo) ∨ (j = k * 3 + 1 ∧ u = .int .i64 p.hi) ∨ (j = k * 3 + 2 ∧ u = .bool p.neg))
  | [], _, _, h => by simp [pcells] at h
  | p :: l, 0, u, h => ⟨0, p, rfl, .inl ⟨rfl, by simpa [pcells] using h.symm⟩⟩
  | p :: l, 1, u, h => ⟨0, p, rfl, .inr (.inl ⟨rfl, by simpa [pcells] using h.symm⟩)⟩
  | p :: l, 2, u, h => ⟨0, p, rfl, .inr (.inr ⟨rfl, by simpa [pcells] using h.symm⟩)⟩
  | p :: l, j + 3, u, h => by
    obtain ⟨k, q, h1, h2⟩ := pcells_of (l := l) (j := j) (u := u) (by simpa [pcells] using h)
    refine ⟨k + 1, q, by simpa using h1, ?_⟩
    rcases h2 with ⟨a, b⟩ | ⟨a, b⟩ | ⟨a, b⟩
    · exact .inl ⟨by omega, b⟩
    · exact .inr (.inl ⟨by omega, b⟩)
    · exact .inr (.inr ⟨by omega, b⟩)
theorem pcells_one (l : List Prt) : ∀ u ∈ pcells l, u.oneCell' = true := by
  intro u hu
  obtain ⟨j, hj⟩ := List.mem_iff_getElem?.1 hu
  obtain ⟨k, p, _, h⟩ := pcells_of hj
  rcases h with ⟨_, rfl⟩ | ⟨_, rfl⟩ | ⟨_, rfl⟩ <;> rfl
theorem own_parts {w : World} {base n c : Nat} {A : Option Addr} {l : List Prt} (h : w.ownsRow base 50 3 (.slice A n c) n (pcells l)) (hn : l.length = n) : PartsH w A n l := by
  refine ⟨hn, fun h0 => ?_⟩
  obtain ⟨g, cap, e, _, hg⟩ := h.form h0
  injection e with e1 e2 e3
  subst e1 e3
  refine ⟨g, rfl, hg, fun k p hk => ?_⟩
  have hkn : k < n := by have := (List.getElem?_eq_some_iff.1 hk).1; omega
  obtain ⟨a, b, c⟩ := pcells_at hk
  exact ⟨(h.cellAt (k * 3) (by omega)).trans a, (h.cellAt (k * 3 + 1) (by omega)).trans b, (h.cellAt (k * 3 + 2) (by omega)).trans c⟩
theorem PartAny.later {w w' : World} {a : Addr} {p : Prt} (h : PartAny w a p) (ha : a.block < w.heap.size) (hb : Below w.heap.size w w') : PartAny w' a p :=
  ⟨(hb.cell ha).trans h.1, (hb.cell (p := ⟨a.block, a.off + 1, none⟩) ha).trans h.2.1, (hb.cell (p := ⟨a.block, a.off + 2, none⟩) ha).trans h.2.2⟩
theorem PartsA.later {w w' : World} {A : Option Addr} {n : Nat} {l : List Prt} (h : PartsA w A n l) (hb : Below w.heap.size w w') : PartsA w' A n l :=
  ⟨h.1, fun hn => by
    obtain ⟨a, e, ha, hc⟩ := h.2 hn
    exact ⟨a, e, Nat.lt_of_lt_of_le ha hb.size, fun k p hk => (hc k p hk).later (by rw [add_block]; exact ha) hb⟩⟩
theorem PartsA.take {w : World} {A : Option Addr} {n m : Nat} {l : List Prt} (h : PartsA w A n l) (hm : m ≤ n) : PartsA w A m (l.take m) := by
  refine ⟨by rw [List.length_take, h.1]; omega, fun h0 => ?_⟩
  obtain ⟨a, e, ha, hc⟩ := h.2 (by omega)
  refine ⟨a, e, ha, fun k p hk => hc k p ?_⟩
  have hkm : k < m := by have := (List.getElem?_eq_some_iff.1 hk).1; rw [List.length_take] at this; omega
  rwa [List.getElem?_take_of_lt hkm] at hk
theorem parts_news {w : World} {a : Addr} {n : Nat} {l : List Prt} (h : PartsA w (some a) n l) (hn : 0 < n) : ∀ j u, (pcells l)[j]? = some u → w.cell? (a.add j) = some u := by
  obtain ⟨a', e, ha, hc⟩ := h.2 hn
  cases e
  intro j u hj
  obtain ⟨k, p, hk, h3⟩ := pcells_of hj
  obtain ⟨c0, c1, c2⟩ := hc k p hk
  rcases h3 with ⟨rfl, rfl⟩ | ⟨rfl, rfl⟩ | ⟨rfl, rfl⟩
  · exact c0
  · rw [← add_off _ 1 (by omega)]; exact c1
  · rw [← add_off _ 2 (by omega)]; exact c2
theorem info50 : (Tryz.prog.info? 50).map (fun i => (i.zero, i.size, i.bytes)) = some (some (.agg #[.int .i64 0, .int .i64 0, .bool false]), 3, 24) := by kernel_rfl
theorem app_parts (w : World) {ops : Array Oper} {rest : List Oper} {o : Oper} {a : Act} {Q : Exit → Act → World → Prop} (hgd : o.guard = none) (s x : Operand)
    (ho : o.op = .call { callee := .builtin .append, args := #[s, x], argTypes := #[22, 22] }) (base : Nat) (v : Value) (n : Nat) (xs : List Prt) (hs : a.eval s = v) (hown : w.ownsRow base 50 3 v n (pcells xs))
    (ao : Option Addr) (m c : Nat) (l : List Prt) (hx : a.eval x = .slice ao m c) (hr : PartsA w ao m l) (hn : n + m ≤ 100000) (hbase : base ≤ w.heap.size)
    (h : ∀ v' w', w'.ownsRow base 50 3 v' (n + m) (pcells xs ++ pcells l) → w.grownBy w' v.ownBlock → wpList Tryz.prog ops Q rest (a.put o.dst v') w') : wpList Tryz.prog ops Q (o :: rest) a w := by
  obtain ⟨i0, hi, hz0, hz1, hz2⟩ := info_parts info50
  rcases Nat.eq_zero_or_pos m with z | z
  · subst z
    have hl : l = [] := List.eq_nil_of_length_eq_zero hr.1
    subst hl
    have hsrc : Src Tryz.prog i0.size 22 (.slice ao 0 c) 0 [] w := by
      cases ao with
      | none => exact Src.ofNil w Tryz.underlying22 c
      | some ad => exact Src.ofSlice w Tryz.underlying22 ad 0 c [] (by simp) (by simp) (by simp)
    obtain ⟨b, sl, sc, hv, hle⟩ : ∃ b sl sc, v = .slice b sl sc ∧ sl ≤ sc := by
      rcases hown.2 with ⟨h1, _⟩ | ⟨g, cap, cur, h1, _, _, h2, _⟩
      · exact ⟨_, _, _, h1, Nat.le_refl _⟩
      · exact ⟨_, _, _, h1, h2⟩
    have hrun := run_append_nothing (P := Tryz.prog) w 22 22 o.type 50 i0 Tryz.underlying22 hi b sl sc hle _ hsrc
    rw [← hv] at hrun
    refine wpList_plain hgd fun K hK => ?_
    unfold Oper.wp
    simp [execOp, ho, resolve, invoke, builtin, hs, hx, hrun, Result.andThen]
    exact hK _ _ (h v w (by simpa [pcells] using hown) (World.grownBy.refl _ _))
  · obtain ⟨ad, e, _, _⟩ := hr.2 z
    subst e
    refine wpList_append_lies w hgd s x 22 ho base 50 i0 _ 3 24 Tryz.underlying22 hi hz0 hz1 hz2 rfl (by decide) v n _ hs hown ad m c (pcells l) hx (by rw [pcells_len, hr.1]) (parts_news hr z) (pcells_one _) z (by unfold maxLen; omega) (by omega) hbase _ rfl ?_
    intro g cap w' hown' hgr _ _
    exact h _ _ hown' hgr
theorem own_capP {w : World} {base n c : Nat} {A : Option Addr} {l : List Prt} (h : w.ownsRow base 50 3 (.slice A n c) n (pcells l)) : n ≤ c := by
  rcases h.2 with ⟨h1, _⟩ | ⟨g', cap, cur, h1, _, _, h2, _⟩
  · injection h1; omega
  · injection h1; omega
/-- What parts returns. -/
def PartR (w : World) (l : List Prt) (e : Ending) (w' : World) : Prop := ∃ A c, e = .returned (.slice A l.length c) ∧ PartsH w' A l.length l ∧ Below w.heap.size w w' ∧ l.length ≤ c
theorem PartR.of {w w1 : World} {l : List Prt} {k : Nat} {v : Value} (hl : l.length = k) (h1 : w1.ownsRow w.heap.size 50 3 v k (pcells l)) (h2 : (w.alloc (.cells #[] 50)).grownBy w1 (some w.heap.size)) : PartR w l (.returned v) w1 := by
  have hb : Below w.heap.size w w1 := ((Below.refl _ _).alloc (Nat.le_refl _) _).grown h2 (by simp) (fun q hq => by simp at hq; omega)
  subst hl
  obtain ⟨A, c, rfl⟩ := own_slice h1
  exact ⟨A, c, rfl, own_parts h1 rfl, hb, own_capP h1⟩
set_option maxRecDepth 100000 in
set_option maxHeartbeats 4000000 in
theorem parts_any (A : Option Addr) (n c : Nat) (l : List Prt) (w : World) (rA : PartsA w A n l) (hc : n ≤ c) (hnil : A = none → c = 0) :
    Calls Tryz.prog 17 #[.slice A n c] w (PartR w (l.take 9)) := by
  have hb0 : Below w.heap.size w (w.alloc (.cells #[] 50)) := (Below.refl _ _).alloc (Nat.le_refl _) _
  have hmade : (w.alloc (.cells #[] 50)).ownsRow w.heap.size 50 3 (.slice (some ⟨w.heap.size, 0, none⟩) 0 0) 0 (pcells []) := World.ownsRow_made (base := w.heap.size) (e := 50) (size := 3) w #[] 0 (by simp) (by unfold maxLen; omega) (by simp)
  have hll := Lib.hid rA.1
  have rA1 := rA.later hb0
  obtain ⟨k, hk⟩ : ∃ k, k = min n 9 := ⟨_, rfl⟩
  have hmin : min (n : Int) 9 = (k : Int) := by omega
  have hT := rA1.take (m := k) (by omega)
  have HC : Hid ((l.take 9).length = k) := by show _ = _; rw [List.length_take]; have := hll.out; omega
  have e1 : Hid (l.take 9 = l.take k) := by
    show _ = _
    have h1 := hll.out
    rcases Nat.le_total n 9 with h | h
    · rw [List.take_of_length_le (by omega), List.take_of_length_le (by omega)]
    · rw [show k = 9 by omega]
  have hkc : k ≤ c := by omega
  have hkci : (k : Int) ≤ (c : Int) := by omega
  have hkq : k ≤ 100 := by omega
  have hnil' := Lib.hid hnil
  clear rA hb0 hk rA1 hnil
  rcases A with _ | a
  · have hc0 := hnil'.out rfl
    have hk0 : k = 0 := by omega
    subst hc0 hk0
    go_enter Tryz.func17, Tryz.ntmps17
    go_wp2_with (at_builtin; refine app_parts _ rfl (.tmp 3) (.tmp 8) rfl w.heap.size _ 0 [] rfl hmade none 0 0 (l.take 0) rfl hT (by omega) (by simp) ?_)
    all_goals
      intro v w1 hown hgr
      have hown2 : w1.ownsRow w.heap.size 50 3 v 0 (pcells (l.take 9)) := by rw [e1.out]; simpa [pcells] using hown
      have hfin := PartR.of HC.out hown2 (by simpa [Value.ownBlock] using hgr)
      have HFin := Lib.hid hfin
      clear hfin hown hown2 hgr
      go_wp2_with fail
      go_ret
      exact HFin.out
  · go_enter Tryz.func17, Tryz.ntmps17
    go_wp2_with (at_builtin; refine app_parts _ rfl (.tmp 3) (.tmp 8) rfl w.heap.size _ 0 [] rfl hmade (some a) k c (l.take k) rfl hT (by omega) (by simp) ?_)
    all_goals
      intro v w1 hown hgr
      have hown2 : w1.ownsRow w.heap.size 50 3 v k (pcells (l.take 9)) := by rw [e1.out]; simpa [pcells] using hown
      have hfin := PartR.of HC.out hown2 (by simpa [Value.ownBlock] using hgr)
      have HFin := Lib.hid hfin
      clear hfin hown hown2 hgr
      go_wp2_with fail
      go_ret
      exact HFin.out
end Go.Proofs.YtpklcjbdmikbdaaGreat
namespace Go.Proofs.YtpklcjbdmikbdaaGreat
set_option maxRecDepth 100000
open Go.RowKit

set_option maxHeartbeats 4000000 in
theorem always_no (A : Option Addr) (n c : Nat) (l : List Prt) (lo hi : Int) (w : World) (rA : PartsH w A n l) (hn : n ≤ 1000) (hr : (rightB l && spanB lo hi) = false) : Calls Tryz.prog 29 #[.slice A n c, .agg #[.int .i64 lo, .int .i64 hi]] w fun e w' => e = .returned (.tuple #[.bool false, .int .i64 1]) ∧ Below w.heap.size w w' := by
  have hb1 : Below w.heap.size w (w.alloc (.cells #[.int .i64 lo, .int .i64 hi] 24)) := (Below.refl _ _).alloc (Nat.le_refl _) _
  have k1 := Blk.new w 24 #[.int .i64 lo, .int .i64 hi]
  have M := right_any A n c l _ (rA.later hb1) hn
  cases hrb : rightB l with
  | false =>
    rw [hrb] at M
    have HM := Lib.hid M
    clear M hr hrb
    go_enter Tryz.func29, Tryz.ntmps29
    go_wp2_with fail
    refine HM.out.mono ?_
    rintro e w2 ⟨rfl, hb2⟩
    have hb3 := hb1.trans (hb2.mono hb1.size)
    clear HM hb1 hb2 k1
    go_wp2_with fail
    go_ret2
    exact ⟨rfl, hb3⟩
  | true =>
    rw [hrb] at M hr
    have hsp : spanB lo hi = false := by simpa using hr
    have HM := Lib.hid M
    have HV : Hid (∀ w, Calls Tryz.prog 22 #[.agg #[.int .i64 lo, .int .i64 hi]] w fun e w' => e = .returned (.bool false) ∧ Below w.heap.size w w') := fun w => by have := valid_any lo hi w; rw [hsp] at this; exact this
    clear M hr hrb hsp
    go_enter Tryz.func29, Tryz.ntmps29
    go_wp2_with fail
    refine HM.out.mono ?_
    rintro e w2 ⟨rfl, hb2⟩
    have k2 := k1.later hb2
    have c2 := k2.cell
    have l2 := k2.lt
    have hb3 := hb1.trans (hb2.mono hb1.size)
    clear HM hb1 hb2 k1
    go_wp2_with fail
    refine (HV.out _).mono ?_
    rintro e w3 ⟨rfl, hb4⟩
    have hb5 := hb3.trans (hb4.mono hb3.size)
    clear c2 l2 hb3 hb4
    go_wp2_with fail
    go_ret2
    exact ⟨rfl, hb5⟩
set_option maxHeartbeats 4000000 in
theorem always_yes (A : Option Addr) (n c : Nat) (l : List Prt) (lo hi : Int) (w : World) (rA : PartsH w A n l) (hr : rightB l = true) (hsp : spanB lo hi = true) : Calls Tryz.prog 29 #[.slice A n c, .agg #[.int .i64 lo, .int .i64 hi]] w fun e w' => e = .returned (.tuple #[.bool ((decide (lo ≤ lowL l) && decide (lowL l ≤ hi)) && (decide (lo ≤ highL l) && decide (highL l ≤ hi))), .int .i64 0]) ∧ Below w.heap.size w w' := by
  obtain ⟨hok, h1, h8⟩ := rightB_iff.1 hr
  have hn : n ≤ 8 := by rw [← rA.1]; exact h8
  have hb1 : Below w.heap.size w (w.alloc (.cells #[.int .i64 lo, .int .i64 hi] 24)) := (Below.refl _ _).alloc (Nat.le_refl _) _
  have k1 := Blk.new w 24 #[.int .i64 lo, .int .i64 hi]
  have M := right_any A n c l _ (rA.later hb1) (by omega)
  rw [hr] at M
  have HM := Lib.hid M
  have HV : Hid (∀ w, Calls Tryz.prog 22 #[.agg #[.int .i64 lo, .int .i64 hi]] w fun e w' => e = .returned (.bool true) ∧ Below w.heap.size w w') := fun w => by have := valid_any lo hi w; rw [hsp] at this; exact this
  have HOK := Lib.hid hok
  clear M hr hok hsp
  go_enter Tryz.func29, Tryz.ntmps29
  go_wp2_with fail
  refine HM.out.mono ?_
  rintro e w2 ⟨rfl, hb2⟩
  have k2 := k1.later hb2
  have c2 := k2.cell
  have l2 := k2.lt
  have hb3 := hb1.trans (hb2.mono hb1.size)
  clear HM hb1 hb2 k1
  go_wp2_with fail
  refine (HV.out _).mono ?_
  rintro e w3 ⟨rfl, hb4⟩
  have k3 := k2.later hb4
  have hb5 := hb3.trans (hb4.mono hb3.size)
  clear c2 l2 hb3 hb4
  have HE := Lib.hid (ends_any A n c l w3 (rA.later hb5) HOK.out hn)
  go_wp2_with fail
  refine HE.out.mono ?_
  rintro e w4 ⟨rfl, hb6⟩
  have k4 := k3.later hb6
  have hb7 := hb5.trans (hb6.mono hb5.size)
  obtain ⟨L, hL⟩ : ∃ L, L = lowL l := ⟨_, rfl⟩
  obtain ⟨H, hH⟩ : ∃ H, H = highL l := ⟨_, rfl⟩
  rw [← hL, ← hH]
  have HLO := Lib.hid hL
  have HHI := Lib.hid hH
  clear HE hb5 hb6 k2 k3 hL hH
  have kS := Blk.new w4 24 #[.int .i64 L, .int .i64 H]
  have hb8 : Below w4.heap.size w4 (w4.alloc (.cells #[.int .i64 L, .int .i64 H] 24)) := (Below.refl _ _).alloc (Nat.le_refl _) _
  have k5 := k4.later hb8
  have hb9 := hb7.trans (hb8.mono hb7.size)
  clear hb7 hb8
  go_upto_region 4 with fail
  revert kS k5 hb9
  generalize w4.alloc (.cells #[.int .i64 L, .int .i64 H] 24) = w5
  generalize w4.heap.size = Sb
  clear k4
  intro kS k5 hb9
  have cS := kS.cell
  have lS := kS.lt
  have c5 := k5.cell
  have l5 := k5.lt
  obtain ⟨b1, h1⟩ : ∃ b, (decide (lo ≤ L) && decide (L ≤ hi)) = b := ⟨_, rfl⟩
  have HI : Hid (∀ w, Calls Tryz.prog 37 #[.int .i64 L, .agg #[.int .i64 lo, .int .i64 hi]] w fun e w' => e = .returned (.bool b1) ∧ Below w.heap.size w w') := fun w => by rw [← h1]; exact inS_any L lo hi w
  have HJ := Lib.hid (fun w => inS_any H lo hi w)
  have HB := Lib.hid h1
  clear h1
  cases b1
  · go_wp2_with fail
    refine (HI.out _).mono ?_
    rintro e w6 ⟨rfl, hb10⟩
    go_wp2_with fail
    go_ret2
    exact ⟨by rw [← HLO.out, ← HHI.out, HB.out]; rfl, hb9.trans (hb10.mono hb9.size)⟩
  · go_wp2_with fail
    refine (HI.out _).mono ?_
    rintro e w6 ⟨rfl, hb10⟩
    have kS6 := kS.later hb10
    have k6 := k5.later hb10
    have hb11 := hb9.trans (hb10.mono hb9.size)
    clear cS lS c5 l5 kS k5 hb9 hb10
    have cS := kS6.cell
    have lS := kS6.lt
    have c5 := k6.cell
    have l5 := k6.lt
    go_wp2_with fail
    refine (HJ.out _).mono ?_
    rintro e w7 ⟨rfl, hb12⟩
    go_wp2_with fail
    go_ret2
    exact ⟨by rw [← HLO.out, ← HHI.out, HB.out]; rfl, hb11.trans (hb12.mono hb11.size)⟩
end Go.Proofs.YtpklcjbdmikbdaaGreat
namespace Go.Proofs.YtpklcjbdmikbdaaGreat
set_option maxRecDepth 100000
open Go.RowKit

set_option maxRecDepth 100000 in
set_option maxHeartbeats 8000000 in
theorem rStack_any (A : Option Addr) (n c : Nat) (l : List Prt) (w : World) (rA : PartsH w A n l) (hn : n ≤ 1000) : Calls Tryz.prog 8 #[.slice A n c] w fun e w' => e = .returned (.bool (rightB l)) ∧ Below w.heap.size w w' := by
  have HAn := Lib.hid rA.1
  have HI := Lib.hid (fun w => rin_any (n : Int) 1 8 w)
  have HR0 : Hid (rightB l = (l.all okB && (decide ((1 : Int) ≤ (n : Int)) && decide ((n : Int) ≤ 8)))) := by
    show _ = _
    unfold rightB
    rw [HAn.out]
    congr 1
    congr 1 <;> (apply Bool.eq_iff_iff.2; simp only [decide_eq_true_eq]; omega)
  cases hin : (decide ((1 : Int) ≤ (n : Int)) && decide ((n : Int) ≤ 8)) with
  | false =>
    have HI2 : Hid (∀ w, Calls Tryz.prog 25 #[.int .i64 (n : Int), .int .i64 1, .int .i64 8] w fun e w' => e = .returned (.bool false) ∧ w = w') := fun w => by have := HI.out w; rw [hin] at this; exact this
    have HR : Hid (rightB l = false) := by show _ = _; rw [HR0.out, hin, Bool.and_false]
    clear hin HI HR0
    go_enter Tryz.func8, Tryz.ntmps8
    go_wp2_with fail
    refine (HI2.out _).mono ?_
    rintro e w2 ⟨rfl, rfl⟩
    go_wp2_with fail
    go_ret
    exact ⟨by rw [HR.out]; rfl, Below.refl _ _⟩
  | true =>
    have HI2 : Hid (∀ w, Calls Tryz.prog 25 #[.int .i64 (n : Int), .int .i64 1, .int .i64 8] w fun e w' => e = .returned (.bool true) ∧ w = w') := fun w => by have := HI.out w; rw [hin] at this; exact this
    have HR : Hid (rightB l = l.all okB) := by show _ = _; rw [HR0.out, hin, Bool.and_true]
    clear hin HI HR0
    go_enter Tryz.func8, Tryz.ntmps8
    go_wp2_with fail
    refine (HI2.out _).mono ?_
    rintro e w2 ⟨rfl, rfl⟩
    clear HI2
    go_wp2_with fail
    go_loopw [3] (fun i wr => ∃ k : Nat, k ≤ n ∧ i = .int .i64 k ∧ Hid ((l.take k).all okB = true) ∧ Below w.heap.size w wr) (fun i _ => n - (RowKit.intOf i).toNat)
    case atStart => exact ⟨0, Nat.zero_le _, rfl, rfl, Below.refl _ _⟩
    case round =>
      obtain ⟨k, hk, rfl, hS, hb⟩ := hrel
      by_cases hlt : k < n
      · obtain ⟨g, p, rfl, hg, hlk, hp1, hp2, hp3⟩ := (rA.later hb).at_ hlt
        have hkn : (k : Int) < (n : Int) := by omega
        have HLK := Lib.hid hlk
        clear hlk
        have hd : decide ((k : Int) < (n : Int)) = true := decide_eq_true hkn
        have hxl := later_cell (w := wr)
        cases hsp : spanB p.lo p.hi with
        | false =>
          have HM : Hid (∀ w, Calls Tryz.prog 9 #[.agg #[.int .i64 p.lo, .int .i64 p.hi], .int .i64 1000000] w fun e w' => e = .returned (.bool false) ∧ Below w.heap.size w w') := fun w => by have := rSpan_any p.lo p.hi 1000000 w (by omega) (by omega); rw [span_same, hsp] at this; exact this
          have HR2 : Hid (rightB l = false) := right_not HLK.out (by unfold okB; rw [hsp]; rfl)
          clear hsp HR hS
          go_wp2_with fail
          refine wp_region_later (by kernel_rfl) (by kernel_rfl) ?_
          repeat (go_big_quiet_step ((go_at_call 9; exact later_call (HM.out _))))
          refine wpQuiet_nil ?_
          rintro w2 ⟨⟨_, hb2⟩, rfl⟩
          have hb3 := hb.trans (hb2.mono hb.size)
          clear hxl hp1 hp2 hp3 hb hb2 HM
          go_wp2_with fail
          go_ret
          exact ⟨by rw [HR2.out]; rfl, hb3⟩
        | true =>
          have HM : Hid (∀ w, Calls Tryz.prog 9 #[.agg #[.int .i64 p.lo, .int .i64 p.hi], .int .i64 1000000] w fun e w' => e = .returned (.bool true) ∧ Below w.heap.size w w') := fun w => by have := rSpan_any p.lo p.hi 1000000 w (by omega) (by omega); rw [span_same, hsp] at this; exact this
          obtain ⟨s1, s2, s3⟩ := spanB_iff.1 hsp
          by_cases hw : p.hi - p.lo ≤ 100
          · have HS2 := Lib.hid (all_snoc HLK.out hS.out (okB_iff.2 ⟨s1, s2, s3, hw⟩))
            have hwd : decide (p.hi - p.lo > 100) = false := by simp; omega
            clear hsp HR hS
            go_wp2_with fail
            refine wp_region_later (by kernel_rfl) (by kernel_rfl) ?_
            repeat (go_big_quiet_step ((go_at_call 9; exact later_call (HM.out _))))
            refine wpQuiet_nil ?_
            rintro w2 ⟨⟨_, hb2⟩, rfl⟩
            have hb3 := hb.trans (hb2.mono hb.size)
            clear hxl hp1 hp2 hp3 hb hb2 HM
            go_wp2_with fail
            go_roundw
            case rel => exact ⟨k + 1, by omega, by go_num, HS2.out, hb3⟩
            case measure => simp [RowKit.intOf]; omega
          · have HR2 : Hid (rightB l = false) := right_not HLK.out (by unfold okB; rw [hsp, decide_eq_false hw]; rfl)
            have hwd : decide (p.hi - p.lo > 100) = true := by simp; omega
            clear hsp HR hS
            go_wp2_with fail
            refine wp_region_later (by kernel_rfl) (by kernel_rfl) ?_
            repeat (go_big_quiet_step ((go_at_call 9; exact later_call (HM.out _))))
            refine wpQuiet_nil ?_
            rintro w2 ⟨⟨_, hb2⟩, rfl⟩
            have hb3 := hb.trans (hb2.mono hb.size)
            clear hxl hp1 hp2 hp3 hb hb2 HM
            go_wp2_with fail
            go_ret
            exact ⟨by rw [HR2.out]; rfl, hb3⟩
      · obtain rfl : k = n := by omega
        have HR2 : Hid (rightB l = true) := by
          show _ = _
          rw [HR.out]
          have := hS.out
          rwa [← HAn.out, List.take_length] at this
        clear hS
        go_wp2_with fail
        go_ret
        exact ⟨by rw [HR2.out]; rfl, hb⟩
end Go.Proofs.YtpklcjbdmikbdaaGreat
namespace Go.Proofs.YtpklcjbdmikbdaaGreat
set_option maxRecDepth 100000
open Go.RowKit

theorem grown_drew {w w' : World} {r : Option Nat} (h : w.grownBy w' r) : w.grownBy w'.drew r := ⟨h.os, h.tape, h.output, h.size, h.block⟩
set_option maxRecDepth 100000 in
set_option maxHeartbeats 8000000 in
theorem rGaps_any (A : Option Addr) (n c : Nat) (l : List Prt) (w : World) (rA : PartsH w A n l) (hok : okPs l) (hn : n ≤ 8) : Calls Tryz.prog 15 #[.slice A n c] w fun e w' => e = .returned (.agg #[.int .i64 (lowL l), .int .i64 (highL l)]) ∧ Below w.heap.size w w' := by
  have HAn := Lib.hid rA.1
  have HOK := Lib.hid hok
  have hsz : (w.alloc (.cells #[.int .i64 0, .int .i64 0] 24)).heap.size = w.heap.size + 1 := by simp
  have kR := (Blk.new w 24 #[.int .i64 0, .int .i64 0])
  have hb1 : Below w.heap.size w (w.alloc (.cells #[.int .i64 0, .int .i64 0] 24)) := (Below.refl _ _).alloc (Nat.le_refl _) _
  have hb2 : Below (w.alloc (.cells #[.int .i64 0, .int .i64 0] 24)).heap.size (w.alloc (.cells #[.int .i64 0, .int .i64 0] 24)) ((w.alloc (.cells #[.int .i64 0, .int .i64 0] 24)).alloc (.cells #[.int .i64 0, .int .i64 0] 24)) := (Below.refl _ _).alloc (Nat.le_refl _) _
  have kS := Blk.new (w.alloc (.cells #[.int .i64 0, .int .i64 0] 24)) 24 #[.int .i64 0, .int .i64 0]
  rw [hsz] at kS
  have kR2 := kR.later hb2
  have hb3 := hb1.trans (hb2.mono (by rw [hsz]; exact Nat.le_succ _))
  have HA : Hid (∀ wr, Below w.heap.size w wr → PartsH wr A n l) := fun wr hb => rA.later hb
  clear hok hsz kR hb1 hb2 rA
  go_enter Tryz.func15, Tryz.ntmps15
  go_upto_region 2 with fail
  revert kS kR2 hb3 HA
  generalize (w.alloc (.cells #[.int .i64 0, .int .i64 0] 24)).alloc (.cells #[.int .i64 0, .int .i64 0] 24) = w1
  generalize hNe : w.heap.size = N
  intro kS kR2 hb3 HA
  have HNe := Lib.hid hNe
  clear hNe
  have hlS := kS.lt
  have hl0 : lowL [] = 0 := rfl
  have hh0 : highL [] = 0 := rfl
  go_wp2_with fail
  go_loopw [4] (fun i wr => ∃ k : Nat, k ≤ n ∧ i = .int .i64 k ∧ Blk wr (N + 1) 24 #[.int .i64 (lowL (l.take k)), .int .i64 (highL (l.take k))] ∧ w1.grownBy wr (some (N + 1))) (fun i _ => n - (RowKit.intOf i).toNat)
  case atStart => exact ⟨0, Nat.zero_le _, rfl, kS, World.grownBy.refl _ _⟩
  case round =>
    clear kS hl0 hh0
    obtain ⟨k, hk, rfl, kS, hgr⟩ := hrel
    have kR := kR2.grown hgr (by simp)
    have hbw := hb3.grown hgr (by have h1 := hb3.size; rw [HNe.out] at h1; exact h1) (fun i hi => by cases hi; exact Nat.le_succ _)
    by_cases hlt : k < n
    · obtain ⟨g, p, rfl, hg, hlk, hp1, hp2, hp3⟩ := (HA.out wr hbw).at_ hlt
      have hkn : (k : Int) < (n : Int) := by omega
      have hp := okP_ends (HOK.out p (List.mem_of_getElem? hlk))
      obtain ⟨po1, po2, po3, po4⟩ := HOK.out p (List.mem_of_getElem? hlk)
      have hb := ends_take HOK.out (by rw [HAn.out]; exact hn) k
      obtain ⟨q1, q2⟩ := ends_step hlk
      obtain ⟨L, hL⟩ : ∃ L, L = lowL (l.take k) := ⟨_, rfl⟩
      obtain ⟨H, hH⟩ : ∃ H, H = highL (l.take k) := ⟨_, rfl⟩
      rw [← hL] at kS hb q1
      rw [← hH] at kS hb q2
      obtain ⟨b1, b2, b3⟩ := hb
      have HS0 := Lib.hid q1
      have HS1 := Lib.hid q2
      clear hL hH q1 q2 hlk hp
      have kP := Blk.new wr 50 #[.int .i64 p.lo, .int .i64 p.hi, .bool p.neg]
      have hba : Below wr.heap.size wr (wr.alloc (.cells #[.int .i64 p.lo, .int .i64 p.hi, .bool p.neg] 50)) := (Below.refl _ _).alloc (Nat.le_refl _) _
      have kS2 := kS.later hba
      have hgr2 := only_trans_below hgr hba
      have hlN := kS.lt
      go_upto_region 6 with fail
      clear hp1 hp2 hp3 hba kS hgr
      revert kP kS2 hgr2 hlN
      generalize wr.alloc (.cells #[.int .i64 p.lo, .int .i64 p.hi, .bool p.neg] 50) = w2
      generalize wr.heap.size = Pb
      intro kP2 kS2 hgr2 hlN
      cases hng : p.neg
      · rw [hng] at kP2
        have HE0 : Hid (L + p.low = L + p.lo) := by show _ = _; unfold Prt.low; rw [hng]; simp <;> omega
        have HE1 : Hid (H + p.high = H + p.hi) := by show _ = _; unfold Prt.high; rw [hng]; simp <;> omega
        have kS3 := kS2.set_ 0 (.int .i64 (L + p.lo))
        have kP3 := kP2.far (p := ⟨N + 1, 0, none⟩) (by simp; omega) (.int .i64 (L + p.lo))
        have kS4 := kS3.set_ 1 (.int .i64 (H + p.hi))
        have hgr3 := only_setCell hgr2 (p := ⟨N + 1, 0, none⟩) (.inl rfl) (.int .i64 (L + p.lo))
        have hgr4 := only_setCell hgr3 (p := ⟨N + 1, 1, none⟩) (.inl rfl) (.int .i64 (H + p.hi))
        have cS2 := kS2.cell
        have fS2 := kS2.frozen
        have cP2 := kP2.cell
        have lS2 := kS2.lt
        have lP2 := kP2.lt
        have cS3 := kS3.cell
        have fS3 := kS3.frozen
        have cP3 := kP3.cell
        have KS4 : Hid (Blk ((w2.setCell ⟨N + 1, 0, none⟩ (.int .i64 (L + p.lo))).setCell ⟨N + 1, 1, none⟩ (.int .i64 (H + p.hi))) (N + 1) 24 #[.int .i64 (lowL (l.take (k + 1))), .int .i64 (highL (l.take (k + 1)))]) := by
          have e0 := HS0.out
          have e1 := HS1.out
          rw [HE0.out] at e0
          rw [HE1.out] at e1
          rw [e0, e1]
          exact kS4
        have HG4 := Lib.hid hgr4
        clear kS2 kP2 kS3 kP3 kS4 hgr2 hgr3 hgr4 hbw kR
        go_wp2_with fail
        go_region
        go_wp2_with fail
        go_roundw
        case rel => exact ⟨k + 1, by omega, by go_num, KS4.out, grown_drew HG4.out⟩
        case measure => simp [RowKit.intOf]; omega
      · rw [hng] at kP2
        have HE0 : Hid (L + p.low = L - p.hi) := by show _ = _; unfold Prt.low; rw [hng]; simp <;> omega
        have HE1 : Hid (H + p.high = H - p.lo) := by show _ = _; unfold Prt.high; rw [hng]; simp <;> omega
        have kS3 := kS2.set_ 0 (.int .i64 (L - p.hi))
        have kP3 := kP2.far (p := ⟨N + 1, 0, none⟩) (by simp; omega) (.int .i64 (L - p.hi))
        have kS4 := kS3.set_ 1 (.int .i64 (H - p.lo))
        have hgr3 := only_setCell hgr2 (p := ⟨N + 1, 0, none⟩) (.inl rfl) (.int .i64 (L - p.hi))
        have hgr4 := only_setCell hgr3 (p := ⟨N + 1, 1, none⟩) (.inl rfl) (.int .i64 (H - p.lo))
        have cS2 := kS2.cell
        have fS2 := kS2.frozen
        have cP2 := kP2.cell
        have lS2 := kS2.lt
        have lP2 := kP2.lt
        have cS3 := kS3.cell
        have fS3 := kS3.frozen
        have cP3 := kP3.cell
        have KS4 : Hid (Blk ((w2.setCell ⟨N + 1, 0, none⟩ (.int .i64 (L - p.hi))).setCell ⟨N + 1, 1, none⟩ (.int .i64 (H - p.lo))) (N + 1) 24 #[.int .i64 (lowL (l.take (k + 1))), .int .i64 (highL (l.take (k + 1)))]) := by
          have e0 := HS0.out
          have e1 := HS1.out
          rw [HE0.out] at e0
          rw [HE1.out] at e1
          rw [e0, e1]
          exact kS4
        have HG4 := Lib.hid hgr4
        clear kS2 kP2 kS3 kP3 kS4 hgr2 hgr3 hgr4 hbw kR
        go_wp2_with fail
        go_region
        go_wp2_with fail
        go_roundw
        case rel => exact ⟨k + 1, by omega, by go_num, KS4.out, grown_drew HG4.out⟩
        case measure => simp [RowKit.intOf]; omega
    · obtain rfl : k = n := by omega
      have HT : Hid (l.take k = l) := by show _ = _; rw [← HAn.out, List.take_length]
      rw [HT.out] at kS
      obtain ⟨lo, hlo⟩ : ∃ lo, lo = lowL l := ⟨_, rfl⟩
      obtain ⟨hi, hhi⟩ : ∃ hi, hi = highL l := ⟨_, rfl⟩
      rw [← hlo, ← hhi] at kS
      have HLO := Lib.hid hlo
      have HHI := Lib.hid hhi
      clear hlo hhi
      have cS := kS.cell
      have cR := kR.cell
      have fR := kR.frozen
      have lR := kR.lt
      have lS := kS.lt
      go_wp2_with fail
      refine bodyPost_cell N 24 #[.int .i64 lo, .int .i64 hi] (.agg #[.int .i64 lo, .int .i64 hi]) ((kR.set_ 0 (.int .i64 lo)).set_ 1 (.int .i64 hi)) ?_ ⟨by rw [HLO.out, HHI.out], by rw [HNe.out]; exact (hbw.setCell (Nat.le_refl _) _).setCell (Nat.le_refl _) _⟩
      intro W' hW'
      simp [results, Tryz.results15, go_sem, hW']
end Go.Proofs.YtpklcjbdmikbdaaGreat
namespace Go.Proofs.YtpklcjbdmikbdaaGreat
set_option maxRecDepth 100000
open Go.RowKit

theorem wd_int {p : Prt} (h : okP p) : (p.wd : Int) = p.hi - p.lo + 1 := by unfold okP at h; unfold Prt.wd; omega
theorem gaps_step {l : List Prt} {k : Nat} {p : Prt} (h : l[k]? = some p) : (gapsL (l.take (k + 1))).length = (gapsL (l.take k)).length * p.wd := by
  rw [List.take_add_one, h, Option.toList_some, gapsL_snoc, spread_len]
set_option maxRecDepth 100000 in
set_option maxHeartbeats 8000000 in
theorem rChoices_any (A : Option Addr) (n c : Nat) (l : List Prt) (w : World) (rA : PartsH w A n l) (hok : okPs l) (hn : n ≤ 8) : Calls Tryz.prog 13 #[.slice A n c] w fun e w' => e = .returned (.int .i64 ((gapsL l).length : Nat)) ∧ Below w.heap.size w w' := by
  have HAn := Lib.hid rA.1
  have HOK := Lib.hid hok
  have HG0 : Hid ((gapsL (l.take 0)).length = 1) := rfl
  clear hok
  go_enter Tryz.func13, Tryz.ntmps13
  go_wp2_with fail
  go_loopw [3, 4] (fun m i wr => ∃ k q : Nat, k ≤ n ∧ i = .int .i64 k ∧ m = .int .i64 q ∧ Hid (q = (gapsL (l.take k)).length) ∧ Below w.heap.size w wr) (fun _ i _ => n - (RowKit.intOf i).toNat)
  case atStart => exact ⟨0, 1, Nat.zero_le _, rfl, rfl, HG0.out.symm, Below.refl _ _⟩
  case round =>
    clear HG0
    obtain ⟨k, q, hk, rfl, rfl, hS, hb⟩ := hrel
    by_cases hlt : k < n
    · obtain ⟨g, p, rfl, hg, hlk, hp1, hp2, hp3⟩ := (rA.later hb).at_ hlt
      have hkn : (k : Int) < (n : Int) := by omega
      have hd : decide ((k : Int) < (n : Int)) = true := decide_eq_true hkn
      obtain ⟨po1, po2, po3, po4⟩ := HOK.out p (List.mem_of_getElem? hlk)
      have hwd := wd_int (HOK.out p (List.mem_of_getElem? hlk))
      have hq : Hid (q * p.wd = (gapsL (l.take (k + 1))).length) := by show _ = _; rw [gaps_step hlk, hS.out]
      have hbd : q * p.wd ≤ 10828567056280801 := by
        rw [hq.out]
        exact choices_bound (okPs_take HOK.out _) (by rw [List.length_take, HAn.out]; omega)
      have hmul : (q : Int) * (p.hi - p.lo + 1) = ((q * p.wd : Nat) : Int) := by rw [← hwd]; push_cast; rfl
      have hqb : q ≤ 10828567056280801 := by
        rw [hS.out]
        exact choices_bound (okPs_take HOK.out _) (by rw [List.length_take, HAn.out]; omega)
      clear hlk hwd hS
      generalize q * p.wd = q2 at *
      go_wp2_with fail
      go_region
      go_wp2_with fail
      go_roundw
      case rel => exact ⟨k + 1, q2, by omega, by go_num, by first | rfl | rw [hmul] , hq, hb.drew⟩
      case measure => simp [RowKit.intOf]; omega
    · obtain rfl : k = n := by omega
      have HR2 : Hid (q = (gapsL l).length) := by
        show _ = _
        rw [hS.out, ← HAn.out, List.take_length]
      clear hS
      go_wp2_with fail
      go_ret
      exact ⟨by rw [← HR2.out]; rfl, hb⟩
theorem goodN_split (lo at_ hi : Int) (h1 : lo ≤ at_) (h2 : at_ < hi) (S : List Int) : goodN lo at_ S + goodN (at_ + 1) hi S = goodN lo hi S := by
  unfold goodN
  rw [← sum_add]
  congr 1
  refine List.map_congr_left fun x _ => ?_
  unfold inN
  by_cases a : lo ≤ x <;> by_cases b : x ≤ at_ <;> by_cases c : x ≤ hi
  all_goals first
    | (exfalso; omega)
    | (simp [a, b, c]; try omega)
end Go.Proofs.YtpklcjbdmikbdaaGreat
namespace Go.Proofs.YtpklcjbdmikbdaaGreat
set_option maxRecDepth 100000

/-- How many choices of some parts, begun with a gap, have a gap in need. -/
def cntR (lo hi : Int) : List Prt → Int → Nat
  | [], g => inN lo hi g
  | p :: ps, g => ((List.range p.wd).map fun k => cntR lo hi ps (g + p.off k)).sum
/-- The same of the first k choices of the first part. -/
def cntK (lo hi : Int) (p : Prt) (ps : List Prt) (g : Int) (k : Nat) : Nat := ((List.range k).map fun k => cntR lo hi ps (g + p.off k)).sum
/-- How many choices there are. -/
def widN : List Prt → Nat
  | [] => 1
  | p :: ps => p.wd * widN ps
theorem cntK_zero {lo hi : Int} {p : Prt} {ps : List Prt} {g : Int} : cntK lo hi p ps g 0 = 0 := rfl
theorem cntK_succ {lo hi : Int} {p : Prt} {ps : List Prt} {g : Int} (k : Nat) : cntK lo hi p ps g (k + 1) = cntK lo hi p ps g k + cntR lo hi ps (g + p.off k) := by
  unfold cntK
  rw [List.range_succ, List.map_append, List.sum_append]
  simp
theorem cntK_all {lo hi : Int} {p : Prt} {ps : List Prt} {g : Int} : cntK lo hi p ps g p.wd = cntR lo hi (p :: ps) g := rfl
theorem cntR_le {lo hi : Int} : ∀ {ps : List Prt} {g : Int}, cntR lo hi ps g ≤ widN ps
  | [], g => by unfold cntR widN inN; split <;> omega
  | p :: ps, g => by
    unfold cntR widN
    have := sum_mono (List.range p.wd) (fun k => cntR lo hi ps (g + p.off k)) (fun _ => widN ps) fun k _ => cntR_le
    rw [sum_const, List.length_range] at this
    exact this
theorem cntK_le {lo hi : Int} {p : Prt} {ps : List Prt} {g : Int} {k : Nat} (h : k ≤ p.wd) : cntK lo hi p ps g k ≤ widN (p :: ps) := by
  unfold cntK
  have := sum_mono (List.range k) (fun k => cntR lo hi ps (g + p.off k)) (fun _ => widN ps) fun k _ => cntR_le
  rw [sum_const, List.length_range] at this
  exact Nat.le_trans this (Nat.mul_le_mul_right _ h)
theorem widN_pos {ps : List Prt} (h : okPs ps) : 0 < widN ps := by
  induction ps with
  | nil => exact Nat.one_pos
  | cons p ps ih => exact Nat.mul_pos (okP_wd (h p (by simp))).1 (ih fun q hq => h q (by simp [hq]))
theorem widN_bound : ∀ {ps : List Prt}, okPs ps → widN ps ≤ 101 ^ ps.length
  | [], _ => by simp [widN]
  | p :: ps, h => by
    have h1 := (okP_wd (h p (by simp))).2
    have h2 := widN_bound (ps := ps) fun q hq => h q (by simp [hq])
    have h3 := Nat.mul_le_mul h1 h2
    rw [widN, List.length_cons, Nat.pow_succ, Nat.mul_comm (101 ^ ps.length)]
    exact h3
theorem widN_le {ps : List Prt} (h : okPs ps) (hl : ps.length ≤ 8) : widN ps ≤ 10828567056280801 :=
  Nat.le_trans (widN_bound h) (Nat.le_trans (Nat.pow_le_pow_right (by omega) hl) (by decide))
theorem sum_flat {α : Type} (f : α → List Int) (h : Int → Nat) : ∀ S : List α, ((S.flatMap f).map h).sum = (S.map fun a => ((f a).map h).sum).sum
  | [] => rfl
  | a :: S => by rw [List.flatMap_cons, List.map_append, List.sum_append, sum_flat f h S]; simp
theorem goodN_spread (lo hi : Int) (S : List Int) (ps : List Prt) : goodN lo hi (ps.foldl spread S) = (S.map fun g => cntR lo hi ps g).sum := by
  induction ps generalizing S with
  | nil => rfl
  | cons p ps ih =>
    rw [List.foldl_cons, ih]
    unfold spread
    rw [sum_flat (fun g => p.opts.map fun x => g + x)]
    congr 1
    refine List.map_congr_left fun g _ => ?_
    unfold Prt.opts
    rw [List.map_map, List.map_map]
    rfl
theorem cnt_all (lo hi : Int) (ps : List Prt) : cntR lo hi ps 0 = goodN lo hi (gapsL ps) := by
  unfold gapsL
  rw [goodN_spread]
  simp
theorem len_spread (S : List Int) (ps : List Prt) : (ps.foldl spread S).length = S.length * widN ps := by
  induction ps generalizing S with
  | nil => simp [widN]
  | cons p ps ih =>
    rw [List.foldl_cons, ih, spread_len, widN, Nat.mul_assoc]
theorem wid_all (ps : List Prt) : (gapsL ps).length = widN ps := by
  unfold gapsL
  rw [len_spread]
  simp
end Go.Proofs.YtpklcjbdmikbdaaGreat
namespace Go.Proofs.YtpklcjbdmikbdaaGreat
set_option maxRecDepth 100000
open Go.RowKit

/-- What is returned. -/
def LightR (w : World) (most : Nat) (e : Ending) (w' : World) : Prop :=
  ∃ A c L, e = .returned (.slice A L.length c) ∧ PartsH w' A L.length L ∧ L.length ≤ 9 ∧ L.length ≤ c ∧ (rightB L = true → widN L ≤ most ∨ L.length ≤ 1) ∧ Below w.heap.size w w'
theorem PartsH.take {w : World} {A : Option Addr} {n m : Nat} {l : List Prt} (h : PartsH w A n l) (hm : m ≤ n) : PartsH w A m (l.take m) := by
  refine ⟨by rw [List.length_take, h.1]; omega, fun h0 => ?_⟩
  obtain ⟨g, e, hg, hc⟩ := h.2 (by omega)
  refine ⟨g, e, hg, fun k p hk => hc k p ?_⟩
  have hkm : k < m := by have := (List.getElem?_eq_some_iff.1 hk).1; rw [List.length_take] at this; omega
  rwa [List.getElem?_take_of_lt hkm] at hk
set_option maxHeartbeats 8000000 in
theorem light_any (A : Option Addr) (n c most : Nat) (l : List Prt) (w : World) (rA : PartsA w A n l) (hc : n ≤ c) (hnil : A = none → c = 0) (_hm : most ≤ 100000) :
    Calls Tryz.prog 5 #[.slice A n c, .int .i64 (most : Int)] w (LightR w most) := by
  have HP := Lib.hid (parts_any A n c l w rA hc hnil)
  clear rA hc hnil
  go_enter Tryz.func5, Tryz.ntmps5
  go_wp2_with fail
  refine HP.out.mono ?_
  rintro e w2 ⟨A2, c2, rfl, rL, hb2, hcap⟩
  have h9 : (l.take 9).length ≤ 9 := by rw [List.length_take]; omega
  generalize l.take 9 = L9 at *
  clear HP
  have HRL := Lib.hid rL
  clear rL
  go_wp2_with fail
  go_loopw [5] (fun v wr => ∃ k : Nat, k ≤ L9.length ∧ v = .slice A2 k c2 ∧ Below w2.heap.size w2 wr) (fun v _ => match v with | .slice _ m _ => m | _ => 0)
  case atStart => exact ⟨L9.length, Nat.le_refl _, rfl, Below.refl _ _⟩
  case round =>
    obtain ⟨k, hk, rfl, hbf⟩ := hrel
    have hbl := hb2.trans (hbf.mono hb2.size)
    have hlen : (L9.take k).length = k := by rw [List.length_take]; omega
    obtain ⟨L, hL⟩ : ∃ L, L = L9.take k := ⟨_, rfl⟩
    rw [← hL] at hlen
    have HT : Hid (∀ w', Below wr.heap.size wr w' → PartsH w' A2 k L) := fun w' h => by
      rw [hL]
      exact ((HRL.out.take hk).later hbf).later h
    have HS : Hid (∀ w', Below wr.heap.size wr w' → Calls Tryz.prog 8 #[.slice A2 k c2] w' fun e w'' => e = .returned (.bool (rightB L)) ∧ Below w'.heap.size w' w'') := fun w' h => rStack_any A2 k c2 L w' (HT.out w' h) (by omega)
    clear hL
    cases hr : rightB L with
    | false =>
      rw [hr] at HS
      have HF : Hid (∀ w', Below wr.heap.size wr w' → LightR w most (.returned (.slice A2 k c2)) w') := fun w' h => ⟨A2, c2, L, by rw [hlen], by rw [hlen]; exact HT.out w' h, by omega, by omega, fun h => (by rw [hr] at h; cases h), hbl.trans (h.mono hbl.size)⟩
      clear hr hlen
      go_wp2_with fail
      refine (HS.out _ (Below.refl _ _)).mono ?_
      rintro e w3 ⟨rfl, hb3⟩
      go_wp2_with fail
      go_ret
      exact HF.out _ hb3
    | true =>
      rw [hr] at HS
      obtain ⟨hok, h1, h8⟩ := rightB_iff.1 hr
      rw [hlen] at h1 h8
      have hwb := widN_le hok (by omega)
      have HC : Hid (∀ w', Below wr.heap.size wr w' → _) := fun w' h => rChoices_any A2 k c2 L w' (HT.out w' h) hok h8
      rw [wid_all] at HC
      have HW : Hid ((widN L ≤ most ∨ k ≤ 1) → ∀ w', Below wr.heap.size wr w' → LightR w most (.returned (.slice A2 k c2)) w') := fun hh w' h => ⟨A2, c2, L, by rw [hlen], by rw [hlen]; exact HT.out w' h, by omega, by omega, fun _ => by rw [hlen]; exact hh, hbl.trans (h.mono hbl.size)⟩
      clear hr hlen hok
      generalize widN L = q at *
      by_cases hk1 : k ≤ 1
      · have hd : decide ((k : Int) > 1) = false := decide_eq_false (by omega)
        have hd' : decide (1 < k) = false := decide_eq_false (by omega)
        have HF := Lib.hid (HW.out (.inr hk1))
        clear HW hk1
        go_wp2_with fail
        refine (HS.out _ (Below.refl _ _)).mono ?_
        rintro e w3 ⟨rfl, hb3⟩
        go_wp2_with fail
        go_ret
        exact HF.out _ hb3
      · have hd : decide ((k : Int) > 1) = true := decide_eq_true (by omega)
        have hd' : decide (1 < k) = true := decide_eq_true (by omega)
        by_cases hq : q ≤ most
        · have hd2 : decide ((q : Int) > (most : Int)) = false := decide_eq_false (by omega)
          have hd2' : decide (most < q) = false := decide_eq_false (by omega)
          have HF := Lib.hid (HW.out (.inl hq))
          clear HW hq hk1
          go_wp2_with fail
          refine (HS.out _ (Below.refl _ _)).mono ?_
          rintro e w3 ⟨rfl, hb3⟩
          go_wp2_with fail
          refine (HC.out _ hb3).mono ?_
          rintro e w4 ⟨rfl, hb4⟩
          go_wp2_with fail
          go_ret
          exact HF.out _ (hb3.trans (hb4.mono hb3.size))
        · have hd2 : decide ((q : Int) > (most : Int)) = true := decide_eq_true (by omega)
          have hd2' : decide (most < q) = true := decide_eq_true (by omega)
          obtain ⟨j, rfl⟩ : ∃ j, k = j + 1 := ⟨k - 1, by omega⟩
          have hjc : j ≤ c2 := by omega
          have hj0 : 0 < j := by omega
          clear hd hd'
          have hjci : (j : Int) ≤ (c2 : Int) := by omega
          clear HW hq hk1
          go_wp2_with fail
          refine (HS.out _ (Below.refl _ _)).mono ?_
          rintro e w3 ⟨rfl, hb3⟩
          go_wp2_with fail
          refine (HC.out _ hb3).mono ?_
          rintro e w4 ⟨rfl, hb4⟩
          have hb5 := hbf.trans ((hb3.trans (hb4.mono hb3.size)).mono hbf.size)
          clear hb3 hb4 HS HC HT
          go_wp2_with fail
          go_roundw
          case rel => exact ⟨j, by omega, rfl, hb5⟩
          case measure => simp
end Go.Proofs.YtpklcjbdmikbdaaGreat
