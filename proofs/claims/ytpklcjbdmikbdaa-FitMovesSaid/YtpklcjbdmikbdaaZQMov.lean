/-
Proved: FitMoves: a stack whose first part is greater by a number fits the need moved by it as often; parts may be exchanged.
  Conditions: none.
-/
import Derived.Test.YtpklcjbdmikbdaaGQ
import Derived.Test.YtpklcjbdmikbdaaGO
namespace Go.Proofs.Ytpklcjbdmikbdaa
open Go.RowKit

def pcells : List Prt → List Value
  | [] => []
  | p :: l => .int .i64 p.lo :: .int .i64 p.hi :: .bool p.neg :: pcells l
theorem pcells_len : ∀ l : List Prt, (pcells l).length = l.length * 3
  | [] => rfl
  | p :: l => by simp only [pcells, List.length_cons, pcells_len l]; omega
theorem pcells_at : ∀ {l : List Prt} {k : Nat} {p : Prt}, l[k]? = some p → (pcells l)[k * 3]? = some (.int .i64 p.lo) ∧ (pcells l)[k * 3 + 1]? = some (.int .i64 p.hi) ∧ (pcells l)[k * 3 + 2]? = some (.bool p.neg)
  | [], _, _, h => by simp at h
  | q :: l, 0, p, h => by
    obtain rfl : q = p := by simpa using h
    exact ⟨rfl, rfl, rfl⟩
  | q :: l, k + 1, p, h => by
    have h' : l[k]? = some p := by simpa using h
    obtain ⟨a, b, c⟩ := pcells_at h'
    rw [show (k + 1) * 3 = k * 3 + 3 by omega]
    exact ⟨a, b, c⟩
theorem pcells_of : ∀ {l : List Prt} {j : Nat} {u : Value}, (pcells l)[j]? = some u → ∃ (k : Nat) (p : Prt), l[k]? = some p ∧ ((j = k * 3 ∧ u = .int .i64 p.lo) ∨ (j = k * 3 + 1 ∧ u = .int .i64 p.hi) ∨ (j = k * 3 + 2 ∧ u = .bool p.neg))
  | [], _, _, h => by simp [pcells] at h
  | p :: l, 0, u, h => ⟨0, p, rfl, .inl ⟨rfl, by simpa [pcells] using h.symm⟩⟩
  | p :: l, 1, u, h => ⟨0, p, rfl, .inr (.inl ⟨rfl, by simpa [pcells] using h.symm⟩)⟩
  | p :: l, 2, u, h => ⟨0, p, rfl, .inr (.inr ⟨rfl, by simpa [pcells] using h.symm⟩)⟩
  | p :: l, j + 3, u, h => by
    obtain ⟨k, q, h1, h2⟩ := pcells_of (l := l) (j := j) (u := u) (by simpa [pcells] using h)
    refine ⟨k + 1, q, by simpa using h1, ?_⟩
    rcases h2 with ⟨a, b⟩ | ⟨a, b⟩ | ⟨a, b⟩
    · exact .inl ⟨by omega, b⟩
    · exact .inr (.inl ⟨by omega, b⟩)
    · exact .inr (.inr ⟨by omega, b⟩)
theorem pcells_one (l : List Prt) : ∀ u ∈ pcells l, u.oneCell' = true := by
  intro u hu
  obtain ⟨j, hj⟩ := List.mem_iff_getElem?.1 hu
  obtain ⟨k, p, _, h⟩ := pcells_of hj
  rcases h with ⟨_, rfl⟩ | ⟨_, rfl⟩ | ⟨_, rfl⟩ <;> rfl
theorem own_parts {w : World} {base n c : Nat} {A : Option Addr} {l : List Prt} (h : w.ownsRow base 53 3 (.slice A n c) n (pcells l)) (hn : l.length = n) : PartsH w A n l := by
  refine ⟨hn, fun h0 => ?_⟩
  obtain ⟨g, cap, e, _, hg⟩ := h.form h0
  injection e with e1 e2 e3
  subst e1 e3
  refine ⟨g, rfl, hg, fun k p hk => ?_⟩
  have hkn : k < n := by have := (List.getElem?_eq_some_iff.1 hk).1; omega
  obtain ⟨a, b, c⟩ := pcells_at hk
  exact ⟨(h.cellAt (k * 3) (by omega)).trans a, (h.cellAt (k * 3 + 1) (by omega)).trans b, (h.cellAt (k * 3 + 2) (by omega)).trans c⟩
theorem PartAny.later {w w' : World} {a : Addr} {p : Prt} (h : PartAny w a p) (ha : a.block < w.heap.size) (hb : Below w.heap.size w w') : PartAny w' a p :=
  ⟨(hb.cell ha).trans h.1, (hb.cell (p := ⟨a.block, a.off + 1, none⟩) ha).trans h.2.1, (hb.cell (p := ⟨a.block, a.off + 2, none⟩) ha).trans h.2.2⟩
theorem PartsA.later {w w' : World} {A : Option Addr} {n : Nat} {l : List Prt} (h : PartsA w A n l) (hb : Below w.heap.size w w') : PartsA w' A n l :=
  ⟨h.1, fun hn => by
    obtain ⟨a, e, ha, hc⟩ := h.2 hn
    exact ⟨a, e, Nat.lt_of_lt_of_le ha hb.size, fun k p hk => (hc k p hk).later (by rw [add_block]; exact ha) hb⟩⟩
theorem PartsA.take {w : World} {A : Option Addr} {n m : Nat} {l : List Prt} (h : PartsA w A n l) (hm : m ≤ n) : PartsA w A m (l.take m) := by
  refine ⟨by rw [List.length_take, h.1]; omega, fun h0 => ?_⟩
  obtain ⟨a, e, ha, hc⟩ := h.2 (by omega)
  refine ⟨a, e, ha, fun k p hk => hc k p ?_⟩
  have hkm : k < m := by have := (List.getElem?_eq_some_iff.1 hk).1; rw [List.length_take] at this; omega
  rwa [List.getElem?_take_of_lt hkm] at hk
theorem parts_news {w : World} {a : Addr} {n : Nat} {l : List Prt} (h : PartsA w (some a) n l) (hn : 0 < n) : ∀ j u, (pcells l)[j]? = some u → w.cell? (a.add j) = some u := by
  obtain ⟨a', e, ha, hc⟩ := h.2 hn
  cases e
  intro j u hj
  obtain ⟨k, p, hk, h3⟩ := pcells_of hj
  obtain ⟨c0, c1, c2⟩ := hc k p hk
  rcases h3 with ⟨rfl, rfl⟩ | ⟨rfl, rfl⟩ | ⟨rfl, rfl⟩
  · exact c0
  · rw [← add_off _ 1 (by omega)]; exact c1
  · rw [← add_off _ 2 (by omega)]; exact c2
theorem info53 : (Try.prog.info? 53).map (fun i => (i.zero, i.size, i.bytes)) = some (some (.agg #[.int .i64 0, .int .i64 0, .bool false]), 3, 24) := by kernel_rfl
theorem app_parts (w : World) {ops : Array Oper} {rest : List Oper} {o : Oper} {a : Act} {Q : Exit → Act → World → Prop} (hgd : o.guard = none) (s x : Operand)
    (ho : o.op = .call { callee := .builtin .append, args := #[s, x], argTypes := #[22, 22] }) (base : Nat) (v : Value) (n : Nat) (xs : List Prt) (hs : a.eval s = v) (hown : w.ownsRow base 53 3 v n (pcells xs))
    (ao : Option Addr) (m c : Nat) (l : List Prt) (hx : a.eval x = .slice ao m c) (hr : PartsA w ao m l) (hn : n + m ≤ 100000) (hbase : base ≤ w.heap.size)
    (h : ∀ v' w', w'.ownsRow base 53 3 v' (n + m) (pcells xs ++ pcells l) → w.grownBy w' v.ownBlock → wpList Try.prog ops Q rest (a.put o.dst v') w') : wpList Try.prog ops Q (o :: rest) a w := by
  obtain ⟨i0, hi, hz0, hz1, hz2⟩ := info_parts info53
  rcases Nat.eq_zero_or_pos m with z | z
  · subst z
    have hl : l = [] := List.eq_nil_of_length_eq_zero hr.1
    subst hl
    have hsrc : Src Try.prog i0.size 22 (.slice ao 0 c) 0 [] w := by
      cases ao with
      | none => exact Src.ofNil w Try.underlying22 c
      | some ad => exact Src.ofSlice w Try.underlying22 ad 0 c [] (by simp) (by simp) (by simp)
    obtain ⟨b, sl, sc, hv, hle⟩ : ∃ b sl sc, v = .slice b sl sc ∧ sl ≤ sc := by
      rcases hown.2 with ⟨h1, _⟩ | ⟨g, cap, cur, h1, _, _, h2, _⟩
      · exact ⟨_, _, _, h1, Nat.le_refl _⟩
      · exact ⟨_, _, _, h1, h2⟩
    have hrun := run_append_nothing (P := Try.prog) w 22 22 o.type 53 i0 Try.underlying22 hi b sl sc hle _ hsrc
    rw [← hv] at hrun
    refine wpList_plain hgd fun K hK => ?_
    unfold Oper.wp
    simp [execOp, ho, resolve, invoke, builtin, hs, hx, hrun, Result.andThen]
    exact hK _ _ (h v w (by simpa [pcells] using hown) (World.grownBy.refl _ _))
  · obtain ⟨ad, e, _, _⟩ := hr.2 z
    subst e
    refine wpList_append_lies w hgd s x 22 ho base 53 i0 _ 3 24 Try.underlying22 hi hz0 hz1 hz2 rfl (by decide) v n _ hs hown ad m c (pcells l) hx (by rw [pcells_len, hr.1]) (parts_news hr z) (pcells_one _) z (by unfold maxLen; omega) (by omega) hbase _ rfl ?_
    intro g cap w' hown' hgr _ _
    exact h _ _ hown' hgr
/-- What parts returns. -/
def PartR (w : World) (l : List Prt) (e : Ending) (w' : World) : Prop := ∃ A c, e = .returned (.slice A l.length c) ∧ PartsH w' A l.length l ∧ Below w.heap.size w w'
theorem PartR.of {w w1 : World} {l : List Prt} {k : Nat} {v : Value} (hl : l.length = k) (h1 : w1.ownsRow w.heap.size 53 3 v k (pcells l)) (h2 : (w.alloc (.cells #[] 53)).grownBy w1 (some w.heap.size)) : PartR w l (.returned v) w1 := by
  have hb : Below w.heap.size w w1 := ((Below.refl _ _).alloc (Nat.le_refl _) _).grown h2 (by simp) (fun q hq => by simp at hq; omega)
  subst hl
  obtain ⟨A, c, rfl⟩ := own_slice h1
  exact ⟨A, c, rfl, own_parts h1 rfl, hb⟩
set_option maxRecDepth 100000 in
set_option maxHeartbeats 4000000 in
theorem parts_any (A : Option Addr) (n c : Nat) (l : List Prt) (w : World) (rA : PartsA w A n l) (hc : n ≤ c) (hnil : A = none → c = 0) :
    Calls Try.prog 27 #[.slice A n c] w (PartR w (l.take 9)) := by
  have hb0 : Below w.heap.size w (w.alloc (.cells #[] 53)) := (Below.refl _ _).alloc (Nat.le_refl _) _
  have hmade : (w.alloc (.cells #[] 53)).ownsRow w.heap.size 53 3 (.slice (some ⟨w.heap.size, 0, none⟩) 0 0) 0 (pcells []) := World.ownsRow_made (base := w.heap.size) (e := 53) (size := 3) w #[] 0 (by simp) (by unfold maxLen; omega) (by simp)
  have hll := Lib.hid rA.1
  have rA1 := rA.later hb0
  obtain ⟨k, hk⟩ : ∃ k, k = min n 9 := ⟨_, rfl⟩
  have hmin : min (n : Int) 9 = (k : Int) := by omega
  have hT := rA1.take (m := k) (by omega)
  have HC : Hid ((l.take 9).length = k) := by show _ = _; rw [List.length_take]; have := hll.out; omega
  have e1 : Hid (l.take 9 = l.take k) := by
    show _ = _
    have h1 := hll.out
    rcases Nat.le_total n 9 with h | h
    · rw [List.take_of_length_le (by omega), List.take_of_length_le (by omega)]
    · rw [show k = 9 by omega]
  have hkc : k ≤ c := by omega
  have hkci : (k : Int) ≤ (c : Int) := by omega
  have hkq : k ≤ 100 := by omega
  have hnil' := Lib.hid hnil
  clear rA hb0 hk rA1 hnil
  rcases A with _ | a
  · have hc0 := hnil'.out rfl
    have hk0 : k = 0 := by omega
    subst hc0 hk0
    go_enter Try.func27, Try.ntmps27
    go_wp2_with (at_builtin; refine app_parts _ rfl (.tmp 3) (.tmp 8) rfl w.heap.size _ 0 [] rfl hmade none 0 0 (l.take 0) rfl hT (by omega) (by simp) ?_)
    all_goals
      intro v w1 hown hgr
      have hown2 : w1.ownsRow w.heap.size 53 3 v 0 (pcells (l.take 9)) := by rw [e1.out]; simpa [pcells] using hown
      have hfin := PartR.of HC.out hown2 (by simpa [Value.ownBlock] using hgr)
      have HFin := Lib.hid hfin
      clear hfin hown hown2 hgr
      go_wp2_with fail
      go_ret
      exact HFin.out
  · go_enter Try.func27, Try.ntmps27
    go_wp2_with (at_builtin; refine app_parts _ rfl (.tmp 3) (.tmp 8) rfl w.heap.size _ 0 [] rfl hmade (some a) k c (l.take k) rfl hT (by omega) (by simp) ?_)
    all_goals
      intro v w1 hown hgr
      have hown2 : w1.ownsRow w.heap.size 53 3 v k (pcells (l.take 9)) := by rw [e1.out]; simpa [pcells] using hown
      have hfin := PartR.of HC.out hown2 (by simpa [Value.ownBlock] using hgr)
      have HFin := Lib.hid hfin
      clear hfin hown hown2 hgr
      go_wp2_with fail
      go_ret
      exact HFin.out
end Go.Proofs.Ytpklcjbdmikbdaa
namespace Go.Proofs.Ytpklcjbdmikbdaa
open Go.RowKit

set_option maxHeartbeats 4000000 in
theorem always_no (A : Option Addr) (n c : Nat) (l : List Prt) (lo hi : Int) (w : World) (rA : PartsH w A n l) (hn : n ≤ 1000) (hr : (rightB l && spanB lo hi) = false) : Calls Try.prog 38 #[.slice A n c, .agg #[.int .i64 lo, .int .i64 hi]] w fun e w' => e = .returned (.tuple #[.bool false, .int .i64 1]) ∧ Below w.heap.size w w' := by
  have hb1 : Below w.heap.size w (w.alloc (.cells #[.int .i64 lo, .int .i64 hi] 26)) := (Below.refl _ _).alloc (Nat.le_refl _) _
  have k1 := Blk.new w 26 #[.int .i64 lo, .int .i64 hi]
  have M := right_any A n c l _ (rA.later hb1) hn
  cases hrb : rightB l with
  | false =>
    rw [hrb] at M
    have HM := Lib.hid M
    clear M hr hrb
    go_enter Try.func38, Try.ntmps38
    go_wp2_with fail
    refine HM.out.mono ?_
    rintro e w2 ⟨rfl, hb2⟩
    have hb3 := hb1.trans (hb2.mono hb1.size)
    clear HM hb1 hb2 k1
    go_wp2_with fail
    go_ret2
    exact ⟨rfl, hb3⟩
  | true =>
    rw [hrb] at M hr
    have hsp : spanB lo hi = false := by simpa using hr
    have HM := Lib.hid M
    have HV : Hid (∀ w, Calls Try.prog 62 #[.agg #[.int .i64 lo, .int .i64 hi]] w fun e w' => e = .returned (.bool false) ∧ Below w.heap.size w w') := fun w => by have := valid_any lo hi w; rw [hsp] at this; exact this
    clear M hr hrb hsp
    go_enter Try.func38, Try.ntmps38
    go_wp2_with fail
    refine HM.out.mono ?_
    rintro e w2 ⟨rfl, hb2⟩
    have k2 := k1.later hb2
    have c2 := k2.cell
    have l2 := k2.lt
    have hb3 := hb1.trans (hb2.mono hb1.size)
    clear HM hb1 hb2 k1
    go_wp2_with fail
    refine (HV.out _).mono ?_
    rintro e w3 ⟨rfl, hb4⟩
    have hb5 := hb3.trans (hb4.mono hb3.size)
    clear c2 l2 hb3 hb4
    go_wp2_with fail
    go_ret2
    exact ⟨rfl, hb5⟩
set_option maxHeartbeats 4000000 in
theorem always_yes (A : Option Addr) (n c : Nat) (l : List Prt) (lo hi : Int) (w : World) (rA : PartsH w A n l) (hr : rightB l = true) (hsp : spanB lo hi = true) : Calls Try.prog 38 #[.slice A n c, .agg #[.int .i64 lo, .int .i64 hi]] w fun e w' => e = .returned (.tuple #[.bool ((decide (lo ≤ lowL l) && decide (lowL l ≤ hi)) && (decide (lo ≤ highL l) && decide (highL l ≤ hi))), .int .i64 0]) ∧ Below w.heap.size w w' := by
  obtain ⟨hok, h1, h8⟩ := rightB_iff.1 hr
  have hn : n ≤ 8 := by rw [← rA.1]; exact h8
  have hb1 : Below w.heap.size w (w.alloc (.cells #[.int .i64 lo, .int .i64 hi] 26)) := (Below.refl _ _).alloc (Nat.le_refl _) _
  have k1 := Blk.new w 26 #[.int .i64 lo, .int .i64 hi]
  have M := right_any A n c l _ (rA.later hb1) (by omega)
  rw [hr] at M
  have HM := Lib.hid M
  have HV : Hid (∀ w, Calls Try.prog 62 #[.agg #[.int .i64 lo, .int .i64 hi]] w fun e w' => e = .returned (.bool true) ∧ Below w.heap.size w w') := fun w => by have := valid_any lo hi w; rw [hsp] at this; exact this
  have HOK := Lib.hid hok
  clear M hr hok hsp
  go_enter Try.func38, Try.ntmps38
  go_wp2_with fail
  refine HM.out.mono ?_
  rintro e w2 ⟨rfl, hb2⟩
  have k2 := k1.later hb2
  have c2 := k2.cell
  have l2 := k2.lt
  have hb3 := hb1.trans (hb2.mono hb1.size)
  clear HM hb1 hb2 k1
  go_wp2_with fail
  refine (HV.out _).mono ?_
  rintro e w3 ⟨rfl, hb4⟩
  have k3 := k2.later hb4
  have hb5 := hb3.trans (hb4.mono hb3.size)
  clear c2 l2 hb3 hb4
  have HE := Lib.hid (ends_any A n c l w3 (rA.later hb5) HOK.out hn)
  go_wp2_with fail
  refine HE.out.mono ?_
  rintro e w4 ⟨rfl, hb6⟩
  have k4 := k3.later hb6
  have hb7 := hb5.trans (hb6.mono hb5.size)
  obtain ⟨L, hL⟩ : ∃ L, L = lowL l := ⟨_, rfl⟩
  obtain ⟨H, hH⟩ : ∃ H, H = highL l := ⟨_, rfl⟩
  rw [← hL, ← hH]
  have HLO := Lib.hid hL
  have HHI := Lib.hid hH
  clear HE hb5 hb6 k2 k3 hL hH
  have kS := Blk.new w4 26 #[.int .i64 L, .int .i64 H]
  have hb8 : Below w4.heap.size w4 (w4.alloc (.cells #[.int .i64 L, .int .i64 H] 26)) := (Below.refl _ _).alloc (Nat.le_refl _) _
  have k5 := k4.later hb8
  have hb9 := hb7.trans (hb8.mono hb7.size)
  clear hb7 hb8
  go_upto_region 4 with fail
  revert kS k5 hb9
  generalize w4.alloc (.cells #[.int .i64 L, .int .i64 H] 26) = w5
  generalize w4.heap.size = Sb
  clear k4
  intro kS k5 hb9
  have cS := kS.cell
  have lS := kS.lt
  have c5 := k5.cell
  have l5 := k5.lt
  obtain ⟨b1, h1⟩ : ∃ b, (decide (lo ≤ L) && decide (L ≤ hi)) = b := ⟨_, rfl⟩
  have HI : Hid (∀ w, Calls Try.prog 65 #[.int .i64 L, .agg #[.int .i64 lo, .int .i64 hi]] w fun e w' => e = .returned (.bool b1) ∧ Below w.heap.size w w') := fun w => by rw [← h1]; exact inS_any L lo hi w
  have HJ := Lib.hid (fun w => inS_any H lo hi w)
  have HB := Lib.hid h1
  clear h1
  cases b1
  · go_wp2_with fail
    refine (HI.out _).mono ?_
    rintro e w6 ⟨rfl, hb10⟩
    go_wp2_with fail
    go_ret2
    exact ⟨by rw [← HLO.out, ← HHI.out, HB.out]; rfl, hb9.trans (hb10.mono hb9.size)⟩
  · go_wp2_with fail
    refine (HI.out _).mono ?_
    rintro e w6 ⟨rfl, hb10⟩
    have kS6 := kS.later hb10
    have k6 := k5.later hb10
    have hb11 := hb9.trans (hb10.mono hb9.size)
    clear cS lS c5 l5 kS k5 hb9 hb10
    have cS := kS6.cell
    have lS := kS6.lt
    have c5 := k6.cell
    have l5 := k6.lt
    go_wp2_with fail
    refine (HJ.out _).mono ?_
    rintro e w7 ⟨rfl, hb12⟩
    go_wp2_with fail
    go_ret2
    exact ⟨by rw [← HLO.out, ← HHI.out, HB.out]; rfl, hb11.trans (hb12.mono hb11.size)⟩
set_option maxHeartbeats 4000000 in
theorem ever_no (A : Option Addr) (n c : Nat) (l : List Prt) (lo hi : Int) (w : World) (rA : PartsH w A n l) (hn : n ≤ 1000) (hr : (rightB l && spanB lo hi) = false) : Calls Try.prog 39 #[.slice A n c, .agg #[.int .i64 lo, .int .i64 hi]] w fun e w' => e = .returned (.tuple #[.bool false, .int .i64 1]) ∧ Below w.heap.size w w' := by
  have hb1 : Below w.heap.size w (w.alloc (.cells #[.int .i64 lo, .int .i64 hi] 26)) := (Below.refl _ _).alloc (Nat.le_refl _) _
  have k1 := Blk.new w 26 #[.int .i64 lo, .int .i64 hi]
  have M := right_any A n c l _ (rA.later hb1) hn
  cases hrb : rightB l with
  | false =>
    rw [hrb] at M
    have HM := Lib.hid M
    clear M hr hrb
    go_enter Try.func39, Try.ntmps39
    go_wp2_with fail
    refine HM.out.mono ?_
    rintro e w2 ⟨rfl, hb2⟩
    have hb3 := hb1.trans (hb2.mono hb1.size)
    clear HM hb1 hb2 k1
    go_wp2_with fail
    go_ret2
    exact ⟨rfl, hb3⟩
  | true =>
    rw [hrb] at M hr
    have hsp : spanB lo hi = false := by simpa using hr
    have HM := Lib.hid M
    have HV : Hid (∀ w, Calls Try.prog 62 #[.agg #[.int .i64 lo, .int .i64 hi]] w fun e w' => e = .returned (.bool false) ∧ Below w.heap.size w w') := fun w => by have := valid_any lo hi w; rw [hsp] at this; exact this
    clear M hr hrb hsp
    go_enter Try.func39, Try.ntmps39
    go_wp2_with fail
    refine HM.out.mono ?_
    rintro e w2 ⟨rfl, hb2⟩
    have k2 := k1.later hb2
    have c2 := k2.cell
    have l2 := k2.lt
    have hb3 := hb1.trans (hb2.mono hb1.size)
    clear HM hb1 hb2 k1
    go_wp2_with fail
    refine (HV.out _).mono ?_
    rintro e w3 ⟨rfl, hb4⟩
    have hb5 := hb3.trans (hb4.mono hb3.size)
    clear c2 l2 hb3 hb4
    go_wp2_with fail
    go_ret2
    exact ⟨rfl, hb5⟩
set_option maxHeartbeats 4000000 in
theorem ever_yes (A : Option Addr) (n c : Nat) (l : List Prt) (lo hi : Int) (w : World) (rA : PartsH w A n l) (hr : rightB l = true) (hsp : spanB lo hi = true) : Calls Try.prog 39 #[.slice A n c, .agg #[.int .i64 lo, .int .i64 hi]] w fun e w' => e = .returned (.tuple #[.bool (decide (lowL l ≤ hi) && decide (lo ≤ highL l)), .int .i64 0]) ∧ Below w.heap.size w w' := by
  obtain ⟨hok, h1, h8⟩ := rightB_iff.1 hr
  have hn : n ≤ 8 := by rw [← rA.1]; exact h8
  have hb1 : Below w.heap.size w (w.alloc (.cells #[.int .i64 lo, .int .i64 hi] 26)) := (Below.refl _ _).alloc (Nat.le_refl _) _
  have k1 := Blk.new w 26 #[.int .i64 lo, .int .i64 hi]
  have M := right_any A n c l _ (rA.later hb1) (by omega)
  rw [hr] at M
  have HM := Lib.hid M
  have HV : Hid (∀ w, Calls Try.prog 62 #[.agg #[.int .i64 lo, .int .i64 hi]] w fun e w' => e = .returned (.bool true) ∧ Below w.heap.size w w') := fun w => by have := valid_any lo hi w; rw [hsp] at this; exact this
  have HOK := Lib.hid hok
  clear M hr hok hsp
  go_enter Try.func39, Try.ntmps39
  go_wp2_with fail
  refine HM.out.mono ?_
  rintro e w2 ⟨rfl, hb2⟩
  have k2 := k1.later hb2
  have c2 := k2.cell
  have l2 := k2.lt
  have hb3 := hb1.trans (hb2.mono hb1.size)
  clear HM hb1 hb2 k1
  go_wp2_with fail
  refine (HV.out _).mono ?_
  rintro e w3 ⟨rfl, hb4⟩
  have k3 := k2.later hb4
  have hb5 := hb3.trans (hb4.mono hb3.size)
  clear c2 l2 hb3 hb4
  have HE := Lib.hid (ends_any A n c l w3 (rA.later hb5) HOK.out hn)
  go_wp2_with fail
  refine HE.out.mono ?_
  rintro e w4 ⟨rfl, hb6⟩
  have k4 := k3.later hb6
  have hb7 := hb5.trans (hb6.mono hb5.size)
  obtain ⟨L, hL⟩ : ∃ L, L = lowL l := ⟨_, rfl⟩
  obtain ⟨H, hH⟩ : ∃ H, H = highL l := ⟨_, rfl⟩
  rw [← hL, ← hH]
  have HLO := Lib.hid hL
  have HHI := Lib.hid hH
  clear HE hb5 hb6 k2 k3 hL hH
  have kS := Blk.new w4 26 #[.int .i64 L, .int .i64 H]
  have hb8 : Below w4.heap.size w4 (w4.alloc (.cells #[.int .i64 L, .int .i64 H] 26)) := (Below.refl _ _).alloc (Nat.le_refl _) _
  have k5 := k4.later hb8
  have hb9 := hb7.trans (hb8.mono hb7.size)
  clear hb7 hb8
  go_upto_region 4 with fail
  revert kS k5 hb9
  generalize w4.alloc (.cells #[.int .i64 L, .int .i64 H] 26) = w5
  generalize w4.heap.size = Sb
  clear k4
  intro kS k5 hb9
  have cS := kS.cell
  have lS := kS.lt
  have c5 := k5.cell
  have l5 := k5.lt
  by_cases h1 : L ≤ hi
  · have d1 : decide (L ≤ hi) = true := decide_eq_true h1
    go_wp2_with fail
    go_ret2
    exact ⟨by rw [← HLO.out, ← HHI.out, d1]; rfl, hb9⟩
  · have d1 : decide (L ≤ hi) = false := decide_eq_false h1
    go_wp2_with fail
    go_ret2
    exact ⟨by rw [← HLO.out, ← HHI.out, d1]; rfl, hb9⟩
end Go.Proofs.Ytpklcjbdmikbdaa
namespace Go.Proofs.Ytpklcjbdmikbdaa
open Go.RowKit

set_option maxRecDepth 100000 in
set_option maxHeartbeats 8000000 in
theorem rStack_any (A : Option Addr) (n c : Nat) (l : List Prt) (w : World) (rA : PartsH w A n l) (hn : n ≤ 1000) : Calls Try.prog 29 #[.slice A n c] w fun e w' => e = .returned (.bool (rightB l)) ∧ Below w.heap.size w w' := by
  have HAn := Lib.hid rA.1
  have HI := Lib.hid (fun w => rin_any (n : Int) 1 8 w)
  have HR0 : Hid (rightB l = (l.all okB && (decide ((1 : Int) ≤ (n : Int)) && decide ((n : Int) ≤ 8)))) := by
    show _ = _
    unfold rightB
    rw [HAn.out]
    congr 1
    congr 1 <;> (apply Bool.eq_iff_iff.2; simp only [decide_eq_true_eq]; omega)
  cases hin : (decide ((1 : Int) ≤ (n : Int)) && decide ((n : Int) ≤ 8)) with
  | false =>
    have HI2 : Hid (∀ w, Calls Try.prog 60 #[.int .i64 (n : Int), .int .i64 1, .int .i64 8] w fun e w' => e = .returned (.bool false) ∧ w = w') := fun w => by have := HI.out w; rw [hin] at this; exact this
    have HR : Hid (rightB l = false) := by show _ = _; rw [HR0.out, hin, Bool.and_false]
    clear hin HI HR0
    go_enter Try.func29, Try.ntmps29
    go_wp2_with fail
    refine (HI2.out _).mono ?_
    rintro e w2 ⟨rfl, rfl⟩
    go_wp2_with fail
    go_ret
    exact ⟨by rw [HR.out]; rfl, Below.refl _ _⟩
  | true =>
    have HI2 : Hid (∀ w, Calls Try.prog 60 #[.int .i64 (n : Int), .int .i64 1, .int .i64 8] w fun e w' => e = .returned (.bool true) ∧ w = w') := fun w => by have := HI.out w; rw [hin] at this; exact this
    have HR : Hid (rightB l = l.all okB) := by show _ = _; rw [HR0.out, hin, Bool.and_true]
    clear hin HI HR0
    go_enter Try.func29, Try.ntmps29
    go_wp2_with fail
    refine (HI2.out _).mono ?_
    rintro e w2 ⟨rfl, rfl⟩
    clear HI2
    go_wp2_with fail
    go_loopw [3] (fun i wr => ∃ k : Nat, k ≤ n ∧ i = .int .i64 k ∧ Hid ((l.take k).all okB = true) ∧ Below w.heap.size w wr) (fun i _ => n - (RowKit.intOf i).toNat)
    case atStart => exact ⟨0, Nat.zero_le _, rfl, rfl, Below.refl _ _⟩
    case round =>
      obtain ⟨k, hk, rfl, hS, hb⟩ := hrel
      by_cases hlt : k < n
      · obtain ⟨g, p, rfl, hg, hlk, hp1, hp2, hp3⟩ := (rA.later hb).at_ hlt
        have hkn : (k : Int) < (n : Int) := by omega
        have HLK := Lib.hid hlk
        clear hlk
        have hd : decide ((k : Int) < (n : Int)) = true := decide_eq_true hkn
        have hxl := later_cell (w := wr)
        cases hsp : spanB p.lo p.hi with
        | false =>
          have HM : Hid (∀ w, Calls Try.prog 30 #[.agg #[.int .i64 p.lo, .int .i64 p.hi], .int .i64 1000000] w fun e w' => e = .returned (.bool false) ∧ Below w.heap.size w w') := fun w => by have := rSpan_any p.lo p.hi 1000000 w (by omega) (by omega); rw [span_same, hsp] at this; exact this
          have HR2 : Hid (rightB l = false) := right_not HLK.out (by unfold okB; rw [hsp]; rfl)
          clear hsp HR hS
          go_wp2_with fail
          refine wp_region_later (by kernel_rfl) (by kernel_rfl) ?_
          repeat (go_big_quiet_step ((go_at_call 30; exact later_call (HM.out _))))
          refine wpQuiet_nil ?_
          rintro w2 ⟨⟨_, hb2⟩, rfl⟩
          have hb3 := hb.trans (hb2.mono hb.size)
          clear hxl hp1 hp2 hp3 hb hb2 HM
          go_wp2_with fail
          go_ret
          exact ⟨by rw [HR2.out]; rfl, hb3⟩
        | true =>
          have HM : Hid (∀ w, Calls Try.prog 30 #[.agg #[.int .i64 p.lo, .int .i64 p.hi], .int .i64 1000000] w fun e w' => e = .returned (.bool true) ∧ Below w.heap.size w w') := fun w => by have := rSpan_any p.lo p.hi 1000000 w (by omega) (by omega); rw [span_same, hsp] at this; exact this
          obtain ⟨s1, s2, s3⟩ := spanB_iff.1 hsp
          by_cases hw : p.hi - p.lo ≤ 100
          · have HS2 := Lib.hid (all_snoc HLK.out hS.out (okB_iff.2 ⟨s1, s2, s3, hw⟩))
            have hwd : decide (p.hi - p.lo > 100) = false := by simp; omega
            clear hsp HR hS
            go_wp2_with fail
            refine wp_region_later (by kernel_rfl) (by kernel_rfl) ?_
            repeat (go_big_quiet_step ((go_at_call 30; exact later_call (HM.out _))))
            refine wpQuiet_nil ?_
            rintro w2 ⟨⟨_, hb2⟩, rfl⟩
            have hb3 := hb.trans (hb2.mono hb.size)
            clear hxl hp1 hp2 hp3 hb hb2 HM
            go_wp2_with fail
            go_roundw
            case rel => exact ⟨k + 1, by omega, by go_num, HS2.out, hb3⟩
            case measure => simp [RowKit.intOf]; omega
          · have HR2 : Hid (rightB l = false) := right_not HLK.out (by unfold okB; rw [hsp, decide_eq_false hw]; rfl)
            have hwd : decide (p.hi - p.lo > 100) = true := by simp; omega
            clear hsp HR hS
            go_wp2_with fail
            refine wp_region_later (by kernel_rfl) (by kernel_rfl) ?_
            repeat (go_big_quiet_step ((go_at_call 30; exact later_call (HM.out _))))
            refine wpQuiet_nil ?_
            rintro w2 ⟨⟨_, hb2⟩, rfl⟩
            have hb3 := hb.trans (hb2.mono hb.size)
            clear hxl hp1 hp2 hp3 hb hb2 HM
            go_wp2_with fail
            go_ret
            exact ⟨by rw [HR2.out]; rfl, hb3⟩
      · obtain rfl : k = n := by omega
        have HR2 : Hid (rightB l = true) := by
          show _ = _
          rw [HR.out]
          have := hS.out
          rwa [← HAn.out, List.take_length] at this
        clear hS
        go_wp2_with fail
        go_ret
        exact ⟨by rw [HR2.out]; rfl, hb⟩
end Go.Proofs.Ytpklcjbdmikbdaa
namespace Go.Proofs.Ytpklcjbdmikbdaa
open Go.RowKit

theorem grown_drew {w w' : World} {r : Option Nat} (h : w.grownBy w' r) : w.grownBy w'.drew r := ⟨h.os, h.tape, h.output, h.size, h.block⟩
set_option maxRecDepth 100000 in
set_option maxHeartbeats 8000000 in
theorem rGaps_any (A : Option Addr) (n c : Nat) (l : List Prt) (w : World) (rA : PartsH w A n l) (hok : okPs l) (hn : n ≤ 8) : Calls Try.prog 40 #[.slice A n c] w fun e w' => e = .returned (.agg #[.int .i64 (lowL l), .int .i64 (highL l)]) ∧ Below w.heap.size w w' := by
  have HAn := Lib.hid rA.1
  have HOK := Lib.hid hok
  have hsz : (w.alloc (.cells #[.int .i64 0, .int .i64 0] 26)).heap.size = w.heap.size + 1 := by simp
  have kR := (Blk.new w 26 #[.int .i64 0, .int .i64 0])
  have hb1 : Below w.heap.size w (w.alloc (.cells #[.int .i64 0, .int .i64 0] 26)) := (Below.refl _ _).alloc (Nat.le_refl _) _
  have hb2 : Below (w.alloc (.cells #[.int .i64 0, .int .i64 0] 26)).heap.size (w.alloc (.cells #[.int .i64 0, .int .i64 0] 26)) ((w.alloc (.cells #[.int .i64 0, .int .i64 0] 26)).alloc (.cells #[.int .i64 0, .int .i64 0] 26)) := (Below.refl _ _).alloc (Nat.le_refl _) _
  have kS := Blk.new (w.alloc (.cells #[.int .i64 0, .int .i64 0] 26)) 26 #[.int .i64 0, .int .i64 0]
  rw [hsz] at kS
  have kR2 := kR.later hb2
  have hb3 := hb1.trans (hb2.mono (by rw [hsz]; exact Nat.le_succ _))
  have HA : Hid (∀ wr, Below w.heap.size w wr → PartsH wr A n l) := fun wr hb => rA.later hb
  clear hok hsz kR hb1 hb2 rA
  go_enter Try.func40, Try.ntmps40
  go_upto_region 2 with fail
  revert kS kR2 hb3 HA
  generalize (w.alloc (.cells #[.int .i64 0, .int .i64 0] 26)).alloc (.cells #[.int .i64 0, .int .i64 0] 26) = w1
  generalize hNe : w.heap.size = N
  intro kS kR2 hb3 HA
  have HNe := Lib.hid hNe
  clear hNe
  have hlS := kS.lt
  have hl0 : lowL [] = 0 := rfl
  have hh0 : highL [] = 0 := rfl
  go_wp2_with fail
  go_loopw [4] (fun i wr => ∃ k : Nat, k ≤ n ∧ i = .int .i64 k ∧ Blk wr (N + 1) 26 #[.int .i64 (lowL (l.take k)), .int .i64 (highL (l.take k))] ∧ w1.grownBy wr (some (N + 1))) (fun i _ => n - (RowKit.intOf i).toNat)
  case atStart => exact ⟨0, Nat.zero_le _, rfl, kS, World.grownBy.refl _ _⟩
  case round =>
    clear kS hl0 hh0
    obtain ⟨k, hk, rfl, kS, hgr⟩ := hrel
    have kR := kR2.grown hgr (by simp)
    have hbw := hb3.grown hgr (by have h1 := hb3.size; rw [HNe.out] at h1; exact h1) (fun i hi => by cases hi; exact Nat.le_succ _)
    by_cases hlt : k < n
    · obtain ⟨g, p, rfl, hg, hlk, hp1, hp2, hp3⟩ := (HA.out wr hbw).at_ hlt
      have hkn : (k : Int) < (n : Int) := by omega
      have hp := okP_ends (HOK.out p (List.mem_of_getElem? hlk))
      obtain ⟨po1, po2, po3, po4⟩ := HOK.out p (List.mem_of_getElem? hlk)
      have hb := ends_take HOK.out (by rw [HAn.out]; exact hn) k
      obtain ⟨q1, q2⟩ := ends_step hlk
      obtain ⟨L, hL⟩ : ∃ L, L = lowL (l.take k) := ⟨_, rfl⟩
      obtain ⟨H, hH⟩ : ∃ H, H = highL (l.take k) := ⟨_, rfl⟩
      rw [← hL] at kS hb q1
      rw [← hH] at kS hb q2
      obtain ⟨b1, b2, b3⟩ := hb
      have HS0 := Lib.hid q1
      have HS1 := Lib.hid q2
      clear hL hH q1 q2 hlk hp
      have kP := Blk.new wr 53 #[.int .i64 p.lo, .int .i64 p.hi, .bool p.neg]
      have hba : Below wr.heap.size wr (wr.alloc (.cells #[.int .i64 p.lo, .int .i64 p.hi, .bool p.neg] 53)) := (Below.refl _ _).alloc (Nat.le_refl _) _
      have kS2 := kS.later hba
      have hgr2 := only_trans_below hgr hba
      have hlN := kS.lt
      go_upto_region 6 with fail
      clear hp1 hp2 hp3 hba kS hgr
      revert kP kS2 hgr2 hlN
      generalize wr.alloc (.cells #[.int .i64 p.lo, .int .i64 p.hi, .bool p.neg] 53) = w2
      generalize wr.heap.size = Pb
      intro kP2 kS2 hgr2 hlN
      cases hng : p.neg
      · rw [hng] at kP2
        have HE0 : Hid (L + p.low = L + p.lo) := by show _ = _; unfold Prt.low; rw [hng]; simp <;> omega
        have HE1 : Hid (H + p.high = H + p.hi) := by show _ = _; unfold Prt.high; rw [hng]; simp <;> omega
        have kS3 := kS2.set_ 0 (.int .i64 (L + p.lo))
        have kP3 := kP2.far (p := ⟨N + 1, 0, none⟩) (by simp; omega) (.int .i64 (L + p.lo))
        have kS4 := kS3.set_ 1 (.int .i64 (H + p.hi))
        have hgr3 := only_setCell hgr2 (p := ⟨N + 1, 0, none⟩) (.inl rfl) (.int .i64 (L + p.lo))
        have hgr4 := only_setCell hgr3 (p := ⟨N + 1, 1, none⟩) (.inl rfl) (.int .i64 (H + p.hi))
        have cS2 := kS2.cell
        have fS2 := kS2.frozen
        have cP2 := kP2.cell
        have lS2 := kS2.lt
        have lP2 := kP2.lt
        have cS3 := kS3.cell
        have fS3 := kS3.frozen
        have cP3 := kP3.cell
        have KS4 : Hid (Blk ((w2.setCell ⟨N + 1, 0, none⟩ (.int .i64 (L + p.lo))).setCell ⟨N + 1, 1, none⟩ (.int .i64 (H + p.hi))) (N + 1) 26 #[.int .i64 (lowL (l.take (k + 1))), .int .i64 (highL (l.take (k + 1)))]) := by
          have e0 := HS0.out
          have e1 := HS1.out
          rw [HE0.out] at e0
          rw [HE1.out] at e1
          rw [e0, e1]
          exact kS4
        have HG4 := Lib.hid hgr4
        clear kS2 kP2 kS3 kP3 kS4 hgr2 hgr3 hgr4 hbw kR
        go_wp2_with fail
        go_region
        go_wp2_with fail
        go_roundw
        case rel => exact ⟨k + 1, by omega, by go_num, KS4.out, grown_drew HG4.out⟩
        case measure => simp [RowKit.intOf]; omega
      · rw [hng] at kP2
        have HE0 : Hid (L + p.low = L - p.hi) := by show _ = _; unfold Prt.low; rw [hng]; simp <;> omega
        have HE1 : Hid (H + p.high = H - p.lo) := by show _ = _; unfold Prt.high; rw [hng]; simp <;> omega
        have kS3 := kS2.set_ 0 (.int .i64 (L - p.hi))
        have kP3 := kP2.far (p := ⟨N + 1, 0, none⟩) (by simp; omega) (.int .i64 (L - p.hi))
        have kS4 := kS3.set_ 1 (.int .i64 (H - p.lo))
        have hgr3 := only_setCell hgr2 (p := ⟨N + 1, 0, none⟩) (.inl rfl) (.int .i64 (L - p.hi))
        have hgr4 := only_setCell hgr3 (p := ⟨N + 1, 1, none⟩) (.inl rfl) (.int .i64 (H - p.lo))
        have cS2 := kS2.cell
        have fS2 := kS2.frozen
        have cP2 := kP2.cell
        have lS2 := kS2.lt
        have lP2 := kP2.lt
        have cS3 := kS3.cell
        have fS3 := kS3.frozen
        have cP3 := kP3.cell
        have KS4 : Hid (Blk ((w2.setCell ⟨N + 1, 0, none⟩ (.int .i64 (L - p.hi))).setCell ⟨N + 1, 1, none⟩ (.int .i64 (H - p.lo))) (N + 1) 26 #[.int .i64 (lowL (l.take (k + 1))), .int .i64 (highL (l.take (k + 1)))]) := by
          have e0 := HS0.out
          have e1 := HS1.out
          rw [HE0.out] at e0
          rw [HE1.out] at e1
          rw [e0, e1]
          exact kS4
        have HG4 := Lib.hid hgr4
        clear kS2 kP2 kS3 kP3 kS4 hgr2 hgr3 hgr4 hbw kR
        go_wp2_with fail
        go_region
        go_wp2_with fail
        go_roundw
        case rel => exact ⟨k + 1, by omega, by go_num, KS4.out, grown_drew HG4.out⟩
        case measure => simp [RowKit.intOf]; omega
    · obtain rfl : k = n := by omega
      have HT : Hid (l.take k = l) := by show _ = _; rw [← HAn.out, List.take_length]
      rw [HT.out] at kS
      obtain ⟨lo, hlo⟩ : ∃ lo, lo = lowL l := ⟨_, rfl⟩
      obtain ⟨hi, hhi⟩ : ∃ hi, hi = highL l := ⟨_, rfl⟩
      rw [← hlo, ← hhi] at kS
      have HLO := Lib.hid hlo
      have HHI := Lib.hid hhi
      clear hlo hhi
      have cS := kS.cell
      have cR := kR.cell
      have fR := kR.frozen
      have lR := kR.lt
      have lS := kS.lt
      go_wp2_with fail
      refine bodyPost_cell N 26 #[.int .i64 lo, .int .i64 hi] (.agg #[.int .i64 lo, .int .i64 hi]) ((kR.set_ 0 (.int .i64 lo)).set_ 1 (.int .i64 hi)) ?_ ⟨by rw [HLO.out, HHI.out], by rw [HNe.out]; exact (hbw.setCell (Nat.le_refl _) _).setCell (Nat.le_refl _) _⟩
      intro W' hW'
      simp [results, Try.results40, go_sem, hW']
end Go.Proofs.Ytpklcjbdmikbdaa
namespace Go.Proofs.Ytpklcjbdmikbdaa
open Go.RowKit

theorem wd_int {p : Prt} (h : okP p) : (p.wd : Int) = p.hi - p.lo + 1 := by unfold okP at h; unfold Prt.wd; omega
theorem gaps_step {l : List Prt} {k : Nat} {p : Prt} (h : l[k]? = some p) : (gapsL (l.take (k + 1))).length = (gapsL (l.take k)).length * p.wd := by
  rw [List.take_add_one, h, Option.toList_some, gapsL_snoc, spread_len]
set_option maxRecDepth 100000 in
set_option maxHeartbeats 8000000 in
theorem rChoices_any (A : Option Addr) (n c : Nat) (l : List Prt) (w : World) (rA : PartsH w A n l) (hok : okPs l) (hn : n ≤ 8) : Calls Try.prog 31 #[.slice A n c] w fun e w' => e = .returned (.int .i64 ((gapsL l).length : Nat)) ∧ Below w.heap.size w w' := by
  have HAn := Lib.hid rA.1
  have HOK := Lib.hid hok
  have HG0 : Hid ((gapsL (l.take 0)).length = 1) := rfl
  clear hok
  go_enter Try.func31, Try.ntmps31
  go_wp2_with fail
  go_loopw [3, 4] (fun m i wr => ∃ k q : Nat, k ≤ n ∧ i = .int .i64 k ∧ m = .int .i64 q ∧ Hid (q = (gapsL (l.take k)).length) ∧ Below w.heap.size w wr) (fun _ i _ => n - (RowKit.intOf i).toNat)
  case atStart => exact ⟨0, 1, Nat.zero_le _, rfl, rfl, HG0.out.symm, Below.refl _ _⟩
  case round =>
    clear HG0
    obtain ⟨k, q, hk, rfl, rfl, hS, hb⟩ := hrel
    by_cases hlt : k < n
    · obtain ⟨g, p, rfl, hg, hlk, hp1, hp2, hp3⟩ := (rA.later hb).at_ hlt
      have hkn : (k : Int) < (n : Int) := by omega
      have hd : decide ((k : Int) < (n : Int)) = true := decide_eq_true hkn
      obtain ⟨po1, po2, po3, po4⟩ := HOK.out p (List.mem_of_getElem? hlk)
      have hwd := wd_int (HOK.out p (List.mem_of_getElem? hlk))
      have hq : Hid (q * p.wd = (gapsL (l.take (k + 1))).length) := by show _ = _; rw [gaps_step hlk, hS.out]
      have hbd : q * p.wd ≤ 10828567056280801 := by
        rw [hq.out]
        exact choices_bound (okPs_take HOK.out _) (by rw [List.length_take, HAn.out]; omega)
      have hmul : (q : Int) * (p.hi - p.lo + 1) = ((q * p.wd : Nat) : Int) := by rw [← hwd]; push_cast; rfl
      have hqb : q ≤ 10828567056280801 := by
        rw [hS.out]
        exact choices_bound (okPs_take HOK.out _) (by rw [List.length_take, HAn.out]; omega)
      clear hlk hwd hS
      generalize q * p.wd = q2 at *
      go_wp2_with fail
      go_region
      go_wp2_with fail
      go_roundw
      case rel => exact ⟨k + 1, q2, by omega, by go_num, by first | rfl | rw [hmul] , hq, hb.drew⟩
      case measure => simp [RowKit.intOf]; omega
    · obtain rfl : k = n := by omega
      have HR2 : Hid (q = (gapsL l).length) := by
        show _ = _
        rw [hS.out, ← HAn.out, List.take_length]
      clear hS
      go_wp2_with fail
      go_ret
      exact ⟨by rw [← HR2.out]; rfl, hb⟩
theorem goodN_split (lo at_ hi : Int) (h1 : lo ≤ at_) (h2 : at_ < hi) (S : List Int) : goodN lo at_ S + goodN (at_ + 1) hi S = goodN lo hi S := by
  unfold goodN
  rw [← sum_add]
  congr 1
  refine List.map_congr_left fun x _ => ?_
  unfold inN
  by_cases a : lo ≤ x <;> by_cases b : x ≤ at_ <;> by_cases c : x ≤ hi
  all_goals first
    | (exfalso; omega)
    | (simp [a, b, c]; try omega)
end Go.Proofs.Ytpklcjbdmikbdaa
namespace Go.Proofs.Ytpklcjbdmikbdaa
open Go.RowKit

theorem opts_iff {p : Prt} (h : okP p) (y : Int) : y ∈ p.opts ↔ p.low ≤ y ∧ y ≤ p.high := by
  unfold okP at h
  constructor
  · intro hy
    have := mem_opts hy
    unfold Prt.low Prt.high
    rcases this with ⟨e, a, b⟩ | ⟨e, a, b⟩ <;> rw [e] <;> simp <;> omega
  · intro ⟨a, b⟩
    unfold Prt.low at a
    unfold Prt.high at b
    cases hn : p.neg
    · rw [hn] at a b
      simp at a b
      refine List.mem_map.2 ⟨(y - p.lo).toNat, List.mem_range.2 (by unfold Prt.wd; omega), ?_⟩
      unfold Prt.off
      rw [hn]
      simp
      omega
    · rw [hn] at a b
      simp at a b
      refine List.mem_map.2 ⟨(-y - p.lo).toNat, List.mem_range.2 (by unfold Prt.wd; omega), ?_⟩
      unfold Prt.off
      rw [hn]
      simp
      omega
theorem gaps_iff : ∀ l : List Prt, okPs l → ∀ x, x ∈ gapsL l ↔ lowL l ≤ x ∧ x ≤ highL l := by
  refine snoc_induct ?_ ?_
  · intro _ x
    simp [gapsL, lowL, highL]
    omega
  · intro l p ih hok x
    have hl : okPs l := fun q hq => hok q (by simp [hq])
    have hp : okP p := hok p (by simp)
    have e1 := okP_ends hp
    have e2 := (gapsL_facts l hl).2.2.1
    rw [gapsL_snoc, lowL_snoc, highL_snoc]
    unfold spread
    constructor
    · intro hx
      obtain ⟨g, hg, hx⟩ := List.mem_flatMap.1 hx
      obtain ⟨y, hy, rfl⟩ := List.mem_map.1 hx
      have a := (ih hl g).1 hg
      have b := (opts_iff hp y).1 hy
      omega
    · intro ⟨a, b⟩
      rcases Int.le_total x (highL l + p.low) with h | h
      · refine List.mem_flatMap.2 ⟨x - p.low, (ih hl _).2 (by omega), List.mem_map.2 ⟨p.low, (opts_iff hp _).2 (by omega), by omega⟩⟩
      · refine List.mem_flatMap.2 ⟨highL l, (ih hl _).2 (by omega), List.mem_map.2 ⟨x - highL l, (opts_iff hp _).2 (by omega), by omega⟩⟩
theorem good_cons (lo hi x : Int) (S : List Int) : goodN lo hi (x :: S) = inN lo hi x + goodN lo hi S := by unfold goodN; simp
theorem inN_le (lo hi x : Int) : inN lo hi x ≤ 1 := by unfold inN; split <;> omega
theorem inN_one {lo hi x : Int} : inN lo hi x = 1 ↔ lo ≤ x ∧ x ≤ hi := by unfold inN; split <;> simp_all
theorem good_all {lo hi : Int} : ∀ {S : List Int}, goodN lo hi S = S.length ↔ ∀ x ∈ S, lo ≤ x ∧ x ≤ hi
  | [] => by simp [goodN]
  | x :: S => by
    have ih := good_all (lo := lo) (hi := hi) (S := S)
    have h1 := inN_le lo hi x
    have h2 := goodN_le lo hi S
    rw [good_cons, List.length_cons]
    constructor
    · intro h y hy
      rcases List.mem_cons.1 hy with rfl | hy
      · exact inN_one.1 (by omega)
      · exact ih.1 (by omega) y hy
    · intro h
      have a := inN_one.2 (h x (by simp))
      have b := ih.2 fun y hy => h y (by simp [hy])
      omega
theorem good_pos {lo hi : Int} : ∀ {S : List Int}, 0 < goodN lo hi S ↔ ∃ x ∈ S, lo ≤ x ∧ x ≤ hi
  | [] => by simp [goodN]
  | x :: S => by
    have ih := good_pos (lo := lo) (hi := hi) (S := S)
    rw [good_cons]
    constructor
    · intro h
      rcases Nat.eq_zero_or_pos (goodN lo hi S) with z | z
      · have := inN_le lo hi x
        exact ⟨x, by simp, inN_one.1 (by omega)⟩
      · obtain ⟨y, hy, h⟩ := ih.1 z
        exact ⟨y, by simp [hy], h⟩
    · rintro ⟨y, hy, h⟩
      rcases List.mem_cons.1 hy with rfl | hy
      · have := inN_one.2 h
        omega
      · have := ih.2 ⟨y, hy, h⟩
        omega
theorem worst_all {l : List Prt} (h : okPs l) (lo hi : Int) : goodN lo hi (gapsL l) = (gapsL l).length ↔ lo ≤ lowL l ∧ highL l ≤ hi := by
  have e := (gapsL_facts l h).2.2.1
  rw [good_all]
  constructor
  · intro a
    exact ⟨(a _ ((gaps_iff l h _).2 ⟨Int.le_refl _, e⟩)).1, (a _ ((gaps_iff l h _).2 ⟨e, Int.le_refl _⟩)).2⟩
  · intro ⟨a, b⟩ x hx
    have := (gaps_iff l h x).1 hx
    omega
theorem worst_any {l : List Prt} (h : okPs l) {lo hi : Int} (hlh : lo ≤ hi) : 0 < goodN lo hi (gapsL l) ↔ lowL l ≤ hi ∧ lo ≤ highL l := by
  have e := (gapsL_facts l h).2.2.1
  rw [good_pos]
  constructor
  · rintro ⟨x, hx, a⟩
    have := (gaps_iff l h x).1 hx
    omega
  · intro ⟨a, b⟩
    rcases Int.le_total lo (lowL l) with c | c
    · exact ⟨lowL l, (gaps_iff l h _).2 (by omega), by omega⟩
    · exact ⟨lo, (gaps_iff l h _).2 (by omega), by omega⟩
theorem frac_one {q a : Nat} (ha : 0 < a) : (q / q.gcd a = 1 ∧ a / q.gcd a = 1) ↔ q = a := by
  constructor
  · intro ⟨h1, h2⟩
    have d1 := Nat.div_mul_cancel (Nat.gcd_dvd_left q a)
    have d2 := Nat.div_mul_cancel (Nat.gcd_dvd_right q a)
    rw [h1] at d1
    rw [h2] at d2
    omega
  · rintro rfl
    rw [Nat.gcd_self]
    exact ⟨Nat.div_self ha, Nat.div_self ha⟩
end Go.Proofs.Ytpklcjbdmikbdaa
namespace Go.Proofs.Ytpklcjbdmikbdaa
open Go.RowKit

def totE (p : Prt) (h : Int → Nat) (g : Int) : Nat := (p.opts.map fun x => h (g + x)).sum
def totF (l : List Prt) (h : Int → Nat) : Int → Nat := l.foldr totE h
theorem sum_flat {α β : Type} (l : List α) (f : α → List β) (h : β → Nat) : ((l.flatMap f).map h).sum = (l.map fun a => ((f a).map h).sum).sum := by
  induction l with
  | nil => rfl
  | cons a l ih => simp [List.flatMap_cons, ih]
theorem tot_gaps : ∀ (l : List Prt) (h : Int → Nat), ((gapsL l).map h).sum = totF l h 0 := by
  refine snoc_induct ?_ ?_
  · intro h; simp [gapsL, totF]
  · intro l p ih h
    rw [gapsL_snoc]
    unfold spread
    rw [sum_flat]
    have e : ((gapsL l).map fun g => ((p.opts.map fun x => g + x).map h).sum) = (gapsL l).map (totE p h) := by
      refine List.map_congr_left fun g _ => ?_
      unfold totE
      rw [List.map_map]
      rfl
    rw [e, ih]
    unfold totF
    rw [List.foldr_append]
    rfl
theorem sum_swap {α β : Type} (l : List α) (m : List β) (f : α → β → Nat) : (l.map fun a => (m.map fun b => f a b).sum).sum = (m.map fun b => (l.map fun a => f a b).sum).sum := by
  induction l with
  | nil => simp only [List.map_nil, List.sum_nil]; rw [sum_const]; simp
  | cons a l ih => simp only [List.map_cons, List.sum_cons, ih, sum_add]
theorem totE_comm (p q : Prt) (h : Int → Nat) : totE p (totE q h) = totE q (totE p h) := by
  funext g
  unfold totE
  rw [sum_swap]
  refine congrArg List.sum (List.map_congr_left fun y _ => congrArg List.sum (List.map_congr_left fun x _ => ?_))
  rw [show g + x + y = g + y + x by omega]
theorem totF_comm (l : List Prt) (p : Prt) (h : Int → Nat) : totF l (totE p h) = totE p (totF l h) := by
  induction l with
  | nil => rfl
  | cons q l ih =>
    show totE q (totF l (totE p h)) = totE p (totE q (totF l h))
    rw [ih, totE_comm]
theorem totF_reverse (l : List Prt) (h : Int → Nat) : totF l.reverse h = totF l h := by
  induction l with
  | nil => rfl
  | cons p l ih =>
    have e : totF (p :: l).reverse h = totF l.reverse (totE p h) := by
      unfold totF
      rw [List.reverse_cons, List.foldr_append]
      rfl
    rw [e, totF_comm, ih]
    rfl
theorem totF_shift (l : List Prt) (h : Int → Nat) (s : Int) : ∀ g, totF l (fun x => h (x + s)) g = totF l h (g + s) := by
  induction l with
  | nil => intro g; rfl
  | cons p l ih =>
    intro g
    show totE p (totF l fun x => h (x + s)) g = totE p (totF l h) (g + s)
    unfold totE
    refine congrArg List.sum (List.map_congr_left fun x _ => ?_)
    rw [ih, show g + x + s = g + s + x by omega]
/-- A part moved. -/
def Prt.by_ (p : Prt) (b : Int) : Prt := ⟨p.lo + b, p.hi + b, p.neg⟩
def Prt.sgn (p : Prt) (b : Int) : Int := if p.neg then -b else b
theorem opts_by (p : Prt) (b : Int) : (p.by_ b).opts = p.opts.map fun x => x + p.sgn b := by
  unfold Prt.opts Prt.wd Prt.off Prt.by_ Prt.sgn
  rw [List.map_map, show p.hi + b - (p.lo + b) + 1 = p.hi - p.lo + 1 by omega]
  refine List.map_congr_left fun k _ => ?_
  simp only [Function.comp]
  cases p.neg <;> simp <;> omega
theorem totF_by (p : Prt) (l : List Prt) (b : Int) (h : Int → Nat) : totF (p.by_ b :: l) h 0 = totF (p :: l) (fun x => h (x + p.sgn b)) 0 := by
  show totE (p.by_ b) (totF l h) 0 = totE p (totF l fun x => h (x + p.sgn b)) 0
  unfold totE
  rw [opts_by, List.map_map]
  refine congrArg List.sum (List.map_congr_left fun x _ => ?_)
  rw [totF_shift]
  simp only [Function.comp]
  rw [show 0 + (x + p.sgn b) = 0 + x + p.sgn b by omega]
theorem moves_good (p : Prt) (l : List Prt) (b lo hi : Int) : goodN (lo + p.sgn b) (hi + p.sgn b) (gapsL ((p.by_ b :: l).reverse)) = goodN lo hi (gapsL (p :: l)) := by
  unfold goodN
  rw [tot_gaps, tot_gaps, totF_reverse, totF_by]
  have e : (fun x => inN (lo + p.sgn b) (hi + p.sgn b) (x + p.sgn b)) = inN lo hi := by
    funext x
    unfold inN
    by_cases a : lo ≤ x ∧ x ≤ hi
    · rw [if_pos a, if_pos (by omega)]
    · rw [if_neg a, if_neg (by omega)]
  rw [e]
theorem moves_len (p : Prt) (l : List Prt) (b : Int) : (gapsL ((p.by_ b :: l).reverse)).length = (gapsL (p :: l)).length := by
  rw [← all_len, ← all_len, tot_gaps, tot_gaps, totF_reverse, totF_by]
/-- The first k and the last k exchanged. -/
def swpd (l : List Prt) (k : Nat) : List Prt := (List.range l.length).map fun j => if j < k ∨ l.length - 1 - j < k then l.getD (l.length - 1 - j) default else l.getD j default
theorem swpd_len (l : List Prt) (k : Nat) : (swpd l k).length = l.length := by simp [swpd]
theorem swpd_at {l : List Prt} {k j : Nat} (hj : j < l.length) : (swpd l k)[j]? = some (if j < k ∨ l.length - 1 - j < k then l.getD (l.length - 1 - j) default else l.getD j default) := by
  unfold swpd
  rw [List.getElem?_map, List.getElem?_range hj]
  rfl
theorem swpd_zero (l : List Prt) : swpd l 0 = l := by
  refine List.ext_getElem? fun j => ?_
  by_cases hj : j < l.length
  · rw [swpd_at hj, if_neg (by omega), List.getD_eq_getElem?_getD, List.getElem?_eq_getElem hj]
    rfl
  · rw [List.getElem?_eq_none (by rw [swpd_len]; omega), List.getElem?_eq_none (by omega)]
theorem swpd_half (l : List Prt) : swpd l (l.length / 2) = l.reverse := by
  refine List.ext_getElem? fun j => ?_
  by_cases hj : j < l.length
  · rw [swpd_at hj, List.getElem?_reverse hj]
    have hk : l.length - 1 - j < l.length := by omega
    rw [List.getElem?_eq_getElem hk]
    by_cases h : j < l.length / 2 ∨ l.length - 1 - j < l.length / 2
    · rw [if_pos h, List.getD_eq_getElem?_getD, List.getElem?_eq_getElem hk]
      rfl
    · rw [if_neg h]
      have : j = l.length - 1 - j := by omega
      rw [List.getD_eq_getElem?_getD, List.getElem?_eq_getElem hj]
      simp only [Option.getD_some]
      congr 1
      congr 1
  · rw [List.getElem?_eq_none (by rw [swpd_len]; omega), List.getElem?_eq_none (by rw [List.length_reverse]; omega)]
theorem swpd_step {l : List Prt} {k : Nat} {p q : Prt} (hk : k < l.length / 2) (hp : (swpd l k)[k]? = some p) (hq : (swpd l k)[l.length - 1 - k]? = some q) : ((swpd l k).set k q).set (l.length - 1 - k) p = swpd l (k + 1) := by
  rw [swpd_at (by omega), if_neg (by omega)] at hp
  rw [swpd_at (by omega), if_neg (by omega)] at hq
  injection hp with hp
  injection hq with hq
  refine List.ext_getElem? fun j => ?_
  by_cases hj : j < l.length
  · rw [swpd_at hj, List.getElem?_set, List.getElem?_set]
    simp only [List.length_set, swpd_len]
    by_cases h1 : l.length - 1 - k = j
    · rw [if_pos h1, if_pos (by omega), if_pos (by omega), ← hp, show l.length - 1 - j = k by omega]
    · rw [if_neg h1]
      by_cases h2 : k = j
      · rw [if_pos h2, if_pos (by omega), if_pos (by omega), ← hq, ← h2]
      · rw [if_neg h2, swpd_at hj]
        by_cases h3 : j < k ∨ l.length - 1 - j < k
        · rw [if_pos h3, if_pos (by omega)]
        · rw [if_neg h3, if_neg (by omega)]
  · rw [List.getElem?_eq_none (by simp [swpd_len]; omega), List.getElem?_eq_none (by rw [swpd_len]; omega)]
end Go.Proofs.Ytpklcjbdmikbdaa
namespace Go.Proofs.Ytpklcjbdmikbdaa
open Go.RowKit

theorem own_cap {w : World} {base E s n c : Nat} {A : Option Addr} {xs : List Value} (h : w.ownsRow base E s (.slice A n c) n xs) : n ≤ c ∧ (A = none → c = 0) := by
  rcases h.2 with ⟨h2, _⟩ | ⟨g, cap, cur, h2, h3, h4, h5, h6, h7, h8⟩
  · cases h2
    exact ⟨Nat.le_refl _, fun _ => rfl⟩
  · cases h2
    exact ⟨h5, fun e => by cases e⟩
theorem PartsH.partsA {w : World} {A : Option Addr} {n : Nat} {l : List Prt} (h : PartsH w A n l) : PartsA w A n l :=
  ⟨h.1, fun hn => by
    obtain ⟨g, e, hg, hc⟩ := h.2 hn
    exact ⟨_, e, hg, fun k p hk => by
      have := hc k p hk
      unfold PartAt at this
      unfold PartAny
      rw [Addr.add_lit, Nat.zero_add]
      exact this⟩⟩
/-- Block R begins with these cells of parts. -/
def CB (w : World) (R : Nat) (cs : List Value) : Prop := ∃ rest : Array Value, Blk w R 53 (cs.toArray ++ rest)
section
variable {w w' : World} {R : Nat} {cs : List Value}
theorem CB.at_ (h : CB w R cs) {i : Nat} {v : Value} (hv : cs[i]? = some v) : w.cell? ⟨R, i, none⟩ = some v := by
  obtain ⟨rest, h⟩ := h
  have hi := (List.getElem?_eq_some_iff.1 hv).1
  refine (Blk.cell h i).trans ?_
  rw [Array.getElem?_append_left (by simpa using hi), List.getElem?_toArray]
  exact hv
theorem CB.set_ (h : CB w R cs) {i : Nat} (hi : i < cs.length) (v : Value) : CB (w.setCell ⟨R, i, none⟩ v) R (cs.set i v) := by
  obtain ⟨rest, h⟩ := h
  have h1 := Blk.set_ h i v
  rw [Array.setIfInBounds_append_left (by simpa using hi), List.setIfInBounds_toArray] at h1
  exact ⟨rest, h1⟩
theorem CB.frozen (h : CB w R cs) (i : Nat) : w.frozen? ⟨R, i, none⟩ = false := by
  obtain ⟨rest, h⟩ := h
  exact Blk.frozen h i
theorem CB.lt (h : CB w R cs) : R < w.heap.size := by
  obtain ⟨rest, h⟩ := h
  exact Blk.lt h
theorem CB.later (h : CB w R cs) (hb : Below w.heap.size w w') : CB w' R cs := by
  obtain ⟨rest, h⟩ := h
  exact ⟨rest, Blk.later h hb⟩
theorem CB.far (h : CB w R cs) {p : Addr} (hp : R ≠ p.block) (u : Value) : CB (w.setCell p u) R cs := by
  obtain ⟨rest, h⟩ := h
  exact ⟨rest, Blk.far h hp u⟩
theorem CB.of_own {base n c : Nat} (h : w.ownsRow base 53 3 (.slice (some ⟨R, 0, none⟩) n c) n cs) : CB w R cs := by
  obtain ⟨hl, h2⟩ := h
  rcases h2 with ⟨h2, _⟩ | ⟨g, cap, cur, h2, h3, h4, h5, h6, h7, h8⟩
  · cases h2
  · cases h2
    refine ⟨(cur.toList.drop (n * 3)).toArray, ?_⟩
    unfold Blk
    rw [h4]
    congr 2
    apply Array.toList_inj.1
    rw [← h8]
    simp
end
theorem pcells_set : ∀ {l : List Prt} {k : Nat} (p : Prt), k < l.length → (((pcells l).set (k * 3) (.int .i64 p.lo)).set (k * 3 + 1) (.int .i64 p.hi)).set (k * 3 + 2) (.bool p.neg) = pcells (l.set k p)
  | [], _, _, h => by simp at h
  | q :: l, 0, p, _ => rfl
  | q :: l, k + 1, p, h => by
    have ih := pcells_set (l := l) (k := k) p (by simpa using h)
    rw [show (k + 1) * 3 = k * 3 + 3 by omega]
    simp only [pcells, List.set_cons_succ, ← ih]
theorem parts_of_cb {w : World} {R : Nat} {l : List Prt} (h : CB w R (pcells l)) : PartsH w (some ⟨R, 0, none⟩) l.length l :=
  ⟨rfl, fun _ => ⟨R, rfl, h.lt, fun k p hk => by
    obtain ⟨a, b, c⟩ := pcells_at hk
    exact ⟨h.at_ a, h.at_ b, h.at_ c⟩⟩⟩
theorem parts_grown {w w' : World} {A : Option Addr} {n r : Nat} {l : List Prt} (h : PartsH w A n l) (hb : w.grownBy w' (some r)) (hr : ∀ g, A = some ⟨g, 0, none⟩ → 0 < n → g ≠ r) : PartsH w' A n l :=
  ⟨h.1, fun hn => by
    obtain ⟨g, e, hg, hc⟩ := h.2 hn
    have hk := hb.block g hg (by have := hr g e hn; simpa using this)
    exact ⟨g, e, Nat.lt_of_lt_of_le hg hb.size, fun k p hp => by
      obtain ⟨a, b, c⟩ := hc k p hp
      exact ⟨(World.cell?_of_block (a := ⟨g, k * 3, none⟩) hk).trans a, (World.cell?_of_block (a := ⟨g, k * 3 + 1, none⟩) hk).trans b, (World.cell?_of_block (a := ⟨g, k * 3 + 2, none⟩) hk).trans c⟩⟩⟩
theorem parts_ne {w : World} {A : Option Addr} {n N : Nat} {l : List Prt} {x y : Value} (h : PartsH w A n l) (k : Blk w N 26 #[x, y]) : ∀ g, A = some ⟨g, 0, none⟩ → 0 < n → g ≠ N := by
  rintro g e hn rfl
  obtain ⟨g', p, e', hg, hp, _, _, hc⟩ := h.at_ hn
  rw [e] at e'
  cases e'
  have := k.cell (0 * 3 + 2)
  rw [this] at hc
  cases hc
theorem parts_set {w : World} {A : Option Addr} {n N : Nat} {l : List Prt} {x y : Value} (h : PartsH w A n l) (k : Blk w N 26 #[x, y]) (i : Nat) (v : Value) : PartsH (w.setCell ⟨N, i, none⟩ v) A n l :=
  parts_grown h (only_setCell (World.grownBy.refl _ _) (p := ⟨N, i, none⟩) (.inl rfl) v) (parts_ne h k)
/-- What parts returns: a row of the call's own. -/
def PartO (w : World) (l : List Prt) (e : Ending) (w' : World) : Prop := ∃ v, e = .returned v ∧ w'.ownsRow w.heap.size 53 3 v l.length (pcells l) ∧ Below w.heap.size w w'
theorem PartO.of {w w1 : World} {l : List Prt} {k : Nat} {v : Value} (hl : l.length = k) (h1 : w1.ownsRow w.heap.size 53 3 v k (pcells l)) (h2 : (w.alloc (.cells #[] 53)).grownBy w1 (some w.heap.size)) : PartO w l (.returned v) w1 := by
  have hb : Below w.heap.size w w1 := ((Below.refl _ _).alloc (Nat.le_refl _) _).grown h2 (by simp) (fun q hq => by simp at hq; omega)
  subst hl
  exact ⟨v, rfl, h1, hb⟩
set_option maxRecDepth 100000 in
set_option maxHeartbeats 4000000 in
theorem partsO_any (A : Option Addr) (n c : Nat) (l : List Prt) (w : World) (rA : PartsA w A n l) (hc : n ≤ c) (hnil : A = none → c = 0) :
    Calls Try.prog 27 #[.slice A n c] w (PartO w (l.take 9)) := by
  have hb0 : Below w.heap.size w (w.alloc (.cells #[] 53)) := (Below.refl _ _).alloc (Nat.le_refl _) _
  have hmade : (w.alloc (.cells #[] 53)).ownsRow w.heap.size 53 3 (.slice (some ⟨w.heap.size, 0, none⟩) 0 0) 0 (pcells []) := World.ownsRow_made (base := w.heap.size) (e := 53) (size := 3) w #[] 0 (by simp) (by unfold maxLen; omega) (by simp)
  have hll := Lib.hid rA.1
  have rA1 := rA.later hb0
  obtain ⟨k, hk⟩ : ∃ k, k = min n 9 := ⟨_, rfl⟩
  have hmin : min (n : Int) 9 = (k : Int) := by omega
  have hT := rA1.take (m := k) (by omega)
  have HC : Hid ((l.take 9).length = k) := by show _ = _; rw [List.length_take]; have := hll.out; omega
  have e1 : Hid (l.take 9 = l.take k) := by
    show _ = _
    have h1 := hll.out
    rcases Nat.le_total n 9 with h | h
    · rw [List.take_of_length_le (by omega), List.take_of_length_le (by omega)]
    · rw [show k = 9 by omega]
  have hkc : k ≤ c := by omega
  have hkci : (k : Int) ≤ (c : Int) := by omega
  have hkq : k ≤ 100 := by omega
  have hnil' := Lib.hid hnil
  clear rA hb0 hk rA1 hnil
  rcases A with _ | a
  · have hc0 := hnil'.out rfl
    have hk0 : k = 0 := by omega
    subst hc0 hk0
    go_enter Try.func27, Try.ntmps27
    go_wp2_with (at_builtin; refine app_parts _ rfl (.tmp 3) (.tmp 8) rfl w.heap.size _ 0 [] rfl hmade none 0 0 (l.take 0) rfl hT (by omega) (by simp) ?_)
    all_goals
      intro v w1 hown hgr
      have hown2 : w1.ownsRow w.heap.size 53 3 v 0 (pcells (l.take 9)) := by rw [e1.out]; simpa [pcells] using hown
      have hfin := PartO.of HC.out hown2 (by simpa [Value.ownBlock] using hgr)
      have HFin := Lib.hid hfin
      clear hfin hown hown2 hgr
      go_wp2_with fail
      go_ret
      exact HFin.out
  · go_enter Try.func27, Try.ntmps27
    go_wp2_with (at_builtin; refine app_parts _ rfl (.tmp 3) (.tmp 8) rfl w.heap.size _ 0 [] rfl hmade (some a) k c (l.take k) rfl hT (by omega) (by simp) ?_)
    all_goals
      intro v w1 hown hgr
      have hown2 : w1.ownsRow w.heap.size 53 3 v k (pcells (l.take 9)) := by rw [e1.out]; simpa [pcells] using hown
      have hfin := PartO.of HC.out hown2 (by simpa [Value.ownBlock] using hgr)
      have HFin := Lib.hid hfin
      clear hfin hown hown2 hgr
      go_wp2_with fail
      go_ret
      exact HFin.out
set_option maxRecDepth 100000 in
open Go.ChangeShapes Go.WideShapes Go.ChangeAt Go.Joins Go.Deep in
/-- A span, its ends 64-bit integers. -/
theorem open_Gw {H : Type} {enc : TypeId × Value → H} {w : World} {base : Nat} {spare : Nat → Bool} {held : Bool} {r : Reach} {b0 : Nat} {v : Value} {d : DataW H} {p : List MemPlace} (hv : Value.okWide Try.prog w r b0 26 v) (h : DataW.Trod enc Try.prog w base spare held 26 v d p) :
    ∃ a b : Int, v = .agg #[.int .i64 a, .int .i64 b] ∧ (Lit.int .i64 a).wf = true ∧ (Lit.int .i64 b).wf = true := by
  obtain ⟨cs, rfl, hsz⟩ := okWide_struct Try.underlying26 hv
  obtain ⟨fuel, hf0⟩ := h
  obtain ⟨xs, k, rfl, _, hlen, hxs, hf⟩ := DataW.trod_struct Try.underlying26 hf0
  rw [Try.cells26] at hlen
  obtain ⟨l⟩ := cs
  have hf' := hf
  simp only [Value.cells] at hlen hf'
  match l, hlen with
  | [v0, v1], _ =>
    have hx : xs.length = 2 := by rw [hxs]; rfl
    match xs, hx with
    | [x0, x1], _ =>
      have t0 : DataW.trod enc Try.prog w base spare held k 3 (([v0, v1].drop 0).take (Try.prog.cellsOf 3)) = some x0 := hf 0 _ rfl
      rw [Try.cells3] at t0
      have t1 : DataW.trod enc Try.prog w base spare held k 3 (([v0, v1].drop 1).take (Try.prog.cellsOf 3)) = some x1 := hf 1 _ rfl
      rw [Try.cells3] at t1
      obtain ⟨a, e0, _, w0⟩ := DataW.trod_int Try.underlying3 t0
      obtain ⟨b, e1, _, w1⟩ := DataW.trod_int Try.underlying3 t1
      simp at e0 e1
      subst e0 e1
      exact ⟨a, b, rfl, w0, w1⟩
theorem tdiv_two {x : Int} (h : (Lit.int .i64 x).wf = true) : -4611686018427387904 ≤ x.tdiv 2 ∧ x.tdiv 2 ≤ 4611686018427387904 := by
  simp only [Lit.wf, Bool.and_eq_true, decide_eq_true_eq] at h
  rw [show IntKind.i64.min = -9223372036854775808 by rfl, show IntKind.i64.max = 9223372036854775807 by rfl] at h
  rcases Int.le_total 0 x with z | z
  · rw [Int.tdiv_eq_ediv_of_nonneg z]; omega
  · have e : x.tdiv 2 = -((-x).tdiv 2) := by rw [Int.neg_tdiv, Int.neg_neg]
    rw [e, Int.tdiv_eq_ediv_of_nonneg (show 0 ≤ -x by omega)]; omega
end Go.Proofs.Ytpklcjbdmikbdaa
namespace Go.Proofs.Ytpklcjbdmikbdaa.fitMoves
open Go.RowKit

theorem count_any (A : Option Addr) (n c : Nat) (l : List Prt) (lo hi : Int) (hn : n ≤ 1000) : ∃ x y z : Int, (∀ w, PartsH w A n l → Calls Try.prog 28 #[.slice A n c, .agg #[.int .i64 lo, .int .i64 hi]] w fun e w' => e = .returned (.tuple #[.int .i64 x, .int .i64 y, .int .i64 z]) ∧ Below w.heap.size w w') ∧ (z = 1 ∨ (z = 0 ∧ x = ((goodN lo hi (gapsL l) : Nat) : Int) ∧ y = (((gapsL l).length : Nat) : Int))) := by
  cases h : (rightB l && spanB lo hi) with
  | false => exact ⟨0, 0, 1, fun w rA => count_no A n c l lo hi w rA hn h, .inl rfl⟩
  | true =>
    obtain ⟨h1, h2⟩ : rightB l = true ∧ spanB lo hi = true := by simpa using h
    exact ⟨_, _, 0, fun w rA => count_yes A n c l lo hi w rA h1 h2, .inr ⟨rfl, rfl, rfl⟩⟩
theorem CB_drew {w : World} {R : Nat} {cs : List Value} (h : CB w R cs) : CB w.drew R cs := h
theorem PartsH_drew {w : World} {A : Option Addr} {n : Nat} {l : List Prt} (h : PartsH w A n l) : PartsH w.drew A n l := h
set_option maxRecDepth 100000 in
set_option maxHeartbeats 16000000 in
theorem walk (A : Option Addr) (n c : Nat) (lo hi : Int) (tt : Int) (l : List Prt) (w : World) (hsA : PartsA w A n l) (hcA : n ≤ c) (hnA : A = none → c = 0) (hlo : (Lit.int .i64 lo).wf = true) (hhi : (Lit.int .i64 hi).wf = true) :
    Calls Try.prog 6 #[.slice A n c, .agg #[.int .i64 lo, .int .i64 hi], .int .i64 tt] w fun e w' => e = .returned (.bool true) ∧ Below w.heap.size w w' := by
  have hb0 : Below w.heap.size w (w.alloc (.cells #[.int .i64 lo, .int .i64 hi] 26)) := (Below.refl _ _).alloc (Nat.le_refl _) _
  have kN := Blk.new w 26 #[.int .i64 lo, .int .i64 hi]
  have HP := Lib.hid (partsO_any A n c l _ (hsA.later hb0) hcA hnA)
  have h9 : (l.take 9).length ≤ 9 := by rw [List.length_take]; omega
  clear hsA hcA hnA
  have HLO := Lib.hid hlo
  have HHI := Lib.hid hhi
  clear hlo hhi
  go_enter Try.func6, Try.ntmps6
  go_upto_region 1 with fail
  revert kN HP hb0
  generalize w.alloc (.cells #[.int .i64 lo, .int .i64 hi] 26) = w1
  intro hb kN HP
  go_wp2_with fail
  refine HP.out.mono ?_
  rintro e w2 ⟨vo, rfl, hown, hb2⟩
  obtain ⟨A2, c2, rfl⟩ := own_slice hown
  have rL := own_parts hown rfl
  obtain ⟨hc2, hn2⟩ := own_cap hown
  clear hown
  have kN := kN.later hb2
  have hbl := hb.trans (hb2.mono hb.size)
  generalize l.take 9 = L9 at *
  clear HP hb hb2
  have hbf := Below.refl w2.heap.size w2
  obtain ⟨bb, ebb⟩ : ∃ b, Int.tmod tt 1000 = b := ⟨_, rfl⟩
  have hbb1 : -1000 < bb := by have := Int.lt_tmod_of_pos tt (b := 1000) (by decide); omega
  have hbb2 : bb < 1000 := by have := Int.tmod_lt_of_pos tt (b := 1000) (by decide); omega
  have HR : Hid (∀ w', Below w2.heap.size w2 w' → Calls Try.prog 29 #[.slice A2 L9.length c2] w' fun e w'' => e = .returned (.bool (rightB L9)) ∧ Below w'.heap.size w' w'') := fun w' h => rStack_any A2 L9.length c2 L9 w' (rL.later h) (by omega)
  cases hr : rightB L9 with
  | false =>
    rw [hr] at HR
    clear hr rL
    go_wp2_with fail
    refine (HR.out _ hbf).mono ?_
    rintro e wc1 ⟨rfl, hbc⟩
    replace hbf := hbf.trans (hbc.mono hbf.size)
    replace hbl := hbl.trans (hbc.mono hbl.size)
    clear hbc
    go_wp2_with fail
    refine (lives_any _).mono ?_
    rintro e wc2 ⟨rfl, hbc⟩
    replace hbl := hbl.trans (hbc.mono hbl.size)
    clear hbc
    go_wp2_with fail
    go_ret
    exact ⟨rfl, hbl⟩
  | true =>
    rw [hr] at HR
    obtain ⟨hok, h1, h8⟩ := rightB_iff.1 hr
    have HM := Lib.hid fun (w' : World) (h : Below w2.heap.size w2 w') => partsO_any A2 L9.length c2 L9 w' (rL.later h).partsA hc2 hn2
    rw [List.take_of_length_le (by omega)] at HM
    have HL2 : Hid (∀ w', Below w2.heap.size w2 w' → PartsH w' A2 L9.length L9) := fun w' h => rL.later h
    have HOK := Lib.hid (And.intro hok (And.intro hr h1))
    clear hr hok h1 rL hc2 hn2
    have ckN := kN.cell
    have lkN := kN.lt
    go_wp2_with fail
    refine (HR.out _ hbf).mono ?_
    rintro e wc3 ⟨rfl, hbc⟩
    replace kN := kN.later hbc
    replace hbf := hbf.trans (hbc.mono hbf.size)
    replace hbl := hbl.trans (hbc.mono hbl.size)
    clear hbc
    clear ckN lkN
    have rL := HL2.out _ hbf
    go_wp2_with fail
    refine (HM.out _ hbf).mono ?_
    rintro e w5 ⟨v3, rfl, hown3, hbc⟩
    obtain ⟨A3, c3, rfl⟩ := own_slice hown3
    obtain ⟨g3, cap3, e3, hg3, _⟩ := hown3.form HOK.out.2.2
    injection e3 with e3
    subst e3
    obtain ⟨g1, p0, e1, hg1, hp0, _⟩ := rL.at_ HOK.out.2.2
    subst e1
    have hne1 : g1 ≠ g3 := by omega
    have hne2 : w.heap.size ≠ g3 := by have := kN.lt; omega
    have hg3b : w.heap.size ≤ g3 := by have := kN.lt; omega
    have kB := CB.of_own hown3
    replace rL := rL.later hbc
    replace kN := kN.later hbc
    replace hbl := hbl.trans (hbc.mono hbl.size)
    clear hbc hown3 HM HL2 hbf hg1 HR hg3
    obtain ⟨tl, htl⟩ : ∃ tl, L9 = p0 :: tl := by
      cases L9 with
      | nil => simp at hp0
      | cons x tl => exact ⟨tl, by simp at hp0; rw [hp0]⟩
    clear hp0
    obtain ⟨po1, po2, po3, po4⟩ := HOK.out.1 p0 (by rw [htl]; simp)
    have hn0 := HOK.out.2.2
    have hn0i : (0 : Int) < (L9.length : Int) := by omega
    have HTL := Lib.hid htl
    have HML : Hid ((p0.by_ bb :: tl).length = L9.length) := by show _ = _; rw [htl]; rfl
    have hcl : ∀ i, i < 3 → i < (pcells L9).length := fun i hi => by rw [pcells_len]; omega
    have c0 := kB.at_ (i := 0) (v := .int .i64 p0.lo) (by rw [htl]; rfl)
    have c1 := kB.at_ (i := 1) (v := .int .i64 p0.hi) (by rw [htl]; rfl)
    have f0 := kB.frozen
    have kB2 := kB.set_ (i := 0) (hcl 0 (by omega)) (.int .i64 (p0.lo + bb))
    have f1 := kB2.frozen
    have d1 := kB2.at_ (i := 1) (v := .int .i64 p0.hi) (by rw [htl]; rfl)
    have kB3 := kB2.set_ (i := 1) (by rw [List.length_set]; exact hcl 1 (by omega)) (.int .i64 (p0.hi + bb))
    have eB : ((pcells L9).set 0 (.int .i64 (p0.lo + bb))).set 1 (.int .i64 (p0.hi + bb)) = pcells (p0.by_ bb :: tl) := by
      have e : ((pcells L9).set 0 (.int .i64 (p0.lo + bb))).set 1 (.int .i64 (p0.hi + bb)) = pcells (p0.by_ bb :: tl) := by rw [htl]; rfl
      exact e
    rw [eB] at kB3
    have kB4 := CB_drew kB3
    clear eB
    have rL2 := (parts_grown rL (only_setCell (World.grownBy.refl _ _) (p := ⟨g3, 0, none⟩) (.inl rfl) (.int .i64 (p0.lo + bb))) (fun g e _ => by cases e; exact hne1))
    have rL3 := PartsH_drew (parts_grown rL2 (only_setCell (World.grownBy.refl _ _) (p := ⟨g3, 1, none⟩) (.inl rfl) (.int .i64 (p0.hi + bb))) (fun g e _ => by cases e; exact hne1))
    have kN2 := (kN.far (p := ⟨g3, 0, none⟩) hne2 (.int .i64 (p0.lo + bb))).far (p := ⟨g3, 1, none⟩) hne2 (.int .i64 (p0.hi + bb))
    have hbl2 := (hbl.setCell (p := ⟨g3, 0, none⟩) hg3b (.int .i64 (p0.lo + bb))).setCell (p := ⟨g3, 1, none⟩) hg3b (.int .i64 (p0.hi + bb))
    have HF := Lib.hid (And.intro kB4 (And.intro rL3 (And.intro kN2.drew hbl2.drew)))
    clear kB kB2 kB3 kB4 rL rL2 rL3 kN kN2 hbl hbl2 htl hcl
    go_upto_region 6 with fail
    go_region
    clear c0 c1 f0 f1 d1
    revert HF
    generalize ((w5.setCell ⟨g3, 0, none⟩ (.int .i64 (p0.lo + bb))).setCell ⟨g3, 1, none⟩ (.int .i64 (p0.hi + bb))).drew = w6
    intro HF
    obtain ⟨kB, rL, kN, hbl⟩ := HF.out
    clear HF po1 po2 po3 po4
    obtain ⟨n9, hn9⟩ : ∃ n9, L9.length = n9 := ⟨_, rfl⟩
    obtain ⟨l2, el⟩ : ∃ v, lo.tdiv 2 = v := ⟨_, rfl⟩
    obtain ⟨h2, eh⟩ : ∃ v, hi.tdiv 2 = v := ⟨_, rfl⟩
    obtain ⟨bl1, bl2⟩ := tdiv_two HLO.out
    obtain ⟨bh1, bh2⟩ := tdiv_two HHI.out
    rw [el] at bl1 bl2
    rw [eh] at bh1 bh2
    have kM := Blk.new w6 26 #[.int .i64 (l2 + bb), .int .i64 (h2 + bb)]
    have hbn : Below w6.heap.size w6 (w6.alloc (.cells #[.int .i64 (l2 + bb), .int .i64 (h2 + bb)] 26)) := (Below.refl _ _).alloc (Nat.le_refl _) _
    have hne3 : w6.heap.size ≠ g3 := by have := kB.lt; omega
    have HMB : Hid (w.heap.size ≤ w6.heap.size) := hbl.size
    have HMN : Hid (w.heap.size ≠ w6.heap.size) := fun e => by have := kN.lt; omega
    have HMG : Hid (g1 ≠ w6.heap.size) := fun e => by
      obtain ⟨gg, _, ee, hh, _⟩ := rL.at_ (show 0 < L9.length by omega)
      cases ee
      omega
    have kB7 := kB.later hbn
    have rL7 := rL.later hbn
    have kN7 := kN.later hbn
    have hbl7 := hbl.trans (hbn.mono hbl.size)
    have ckN := kN.cell
    have lkN := kN.lt
    clear kB rL hbl hbn
    go_upto_region 8 with fail
    clear ckN lkN kN
    revert kM hne3 HMB HMN HMG kB7 rL7 kN7 hbl7
    generalize w6.alloc (.cells #[.int .i64 (l2 + bb), .int .i64 (h2 + bb)] 26) = w7
    generalize w6.heap.size = MB
    intro kM hne3 HMB HMN HMG kB rL kN hbl
    have c2 := kB.at_ (i := 2) (v := .bool p0.neg) rfl
    go_upto_if 64 with (fail)
    clear c2
    go_cut [75] from 64 to 75 (fun _ wx => Blk wx MB 26 #[.int .i64 (l2 + p0.sgn bb), .int .i64 (h2 + p0.sgn bb)] ∧ CB wx g3 (pcells (p0.by_ bb :: tl)) ∧ Blk wx w.heap.size 26 #[.int .i64 lo, .int .i64 hi] ∧ PartsH wx (some ⟨g1, 0, none⟩) L9.length L9 ∧ Below w.heap.size w wx)
    case first =>
      cases hng : p0.neg
      · have es : p0.sgn bb = bb := by unfold Prt.sgn; rw [hng]; rfl
        go_wp2_with fail
        go_meet
        case rel => rw [es]; exact ⟨kM, kB, kN, rL, hbl⟩
      · have es : p0.sgn bb = -bb := by unfold Prt.sgn; rw [hng]; rfl
        have hMb : w.heap.size ≤ MB := HMB.out
        have hMN : w.heap.size ≠ MB := HMN.out
        have hMg : g1 ≠ MB := HMG.out
        have kM2 := (kM.set_ 0 (.int .i64 (l2 - bb))).set_ 1 (.int .i64 (h2 - bb))
        have kB2 := (kB.far (p := ⟨MB, 0, none⟩) (by simpa using hne3.symm) (.int .i64 (l2 - bb))).far (p := ⟨MB, 1, none⟩) (by simpa using hne3.symm) (.int .i64 (h2 - bb))
        have kN2 := (kN.far (p := ⟨MB, 0, none⟩) hMN (.int .i64 (l2 - bb))).far (p := ⟨MB, 1, none⟩) hMN (.int .i64 (h2 - bb))
        have rL2 := parts_grown (parts_grown rL (only_setCell (World.grownBy.refl _ _) (p := ⟨MB, 0, none⟩) (.inl rfl) (.int .i64 (l2 - bb))) (fun g e _ => by cases e; exact hMg)) (only_setCell (World.grownBy.refl _ _) (p := ⟨MB, 1, none⟩) (.inl rfl) (.int .i64 (h2 - bb))) (fun g e _ => by cases e; exact hMg)
        have hb2 := (hbl.setCell (p := ⟨MB, 0, none⟩) hMb (.int .i64 (l2 - bb))).setCell (p := ⟨MB, 1, none⟩) hMb (.int .i64 (h2 - bb))
        have HF := Lib.hid (And.intro kM2 (And.intro kB2 (And.intro kN2 (And.intro rL2 hb2))))
        have ckN := kN.cell
        have lkN := kN.lt
        have fkM := kM.frozen
        have ckM := kM.cell
        have lkM := kM.lt
        clear kM2 kB2 kN2 rL2 hb2 kB rL hbl kM kN
        go_wp2_with fail
        go_meet
        case rel => rw [es]; exact HF.out
    case rest =>
      obtain ⟨kM, kB, kN, rL, hbl⟩ := hcut
      have HML2 := Lib.hid (HML.out.trans hn9)
      have h8n : n9 ≤ 8 := by omega
      have hn0n : 0 < n9 := by omega
      rw [hn9] at rL ⊢
      clear h8 hn0 hn0i h9
      obtain ⟨m0, hm0⟩ : ∃ m0, p0.by_ bb :: tl = m0 := ⟨_, rfl⟩
      have HM0 := Lib.hid hm0
      rw [hm0] at kB HML2
      have eh2 : (n9 : Int).tdiv 2 = ((n9 / 2 : Nat) : Int) := rfl
      have kB0 : CB wc g3 (pcells (swpd m0 0)) := by rw [swpd_zero]; exact kB
      have HB0 := Lib.hid kB0
      clear hm0 kB kB0
      go_wp2_with fail
      go_loopw [10, 11] (fun i _ wr => ∃ k : Nat, k ≤ n9 / 2 ∧ i = .int .i64 k ∧ Hid (wc.grownBy wr (some g3)) ∧ Hid (CB wr g3 (pcells (swpd m0 k)))) (fun i _ _ => n9 - (RowKit.intOf i).toNat)
      case atStart => exact ⟨0, Nat.zero_le _, rfl, World.grownBy.refl _ _, HB0⟩
      case round =>
        obtain ⟨k, hk, rfl, hgr, kB⟩ := hrel
        obtain ⟨nh, hnh⟩ : ∃ nh, n9 / 2 = nh := ⟨_, rfl⟩
        rw [hnh] at hk eh2
        by_cases hlt : k < nh
        · have hd : decide ((k : Int) < (nh : Int)) = true := decide_eq_true (by omega)
          obtain ⟨q, hq⟩ : ∃ q, n9 - 1 - k = q := ⟨_, rfl⟩
          have hqi : (n9 : Int) - 1 - (k : Int) = (q : Int) := by omega
          have hki : (k : Int) < (n9 : Int) := by omega
          have h8i : (n9 : Int) ≤ 8 := by omega
          have h8j : (1 : Int) ≤ (n9 : Int) := by omega
          have hqn : (q : Int) < (n9 : Int) := by omega
          have hkq : k ≠ q := by omega
          have hlen : (swpd m0 k).length = n9 := by rw [swpd_len]; exact HML2.out
          obtain ⟨pk, hpk⟩ : ∃ p, (swpd m0 k)[k]? = some p := ⟨_, List.getElem?_eq_getElem (by omega)⟩
          obtain ⟨pq, hpq⟩ : ∃ p, (swpd m0 k)[q]? = some p := ⟨_, List.getElem?_eq_getElem (by omega)⟩
          have HST : Hid (((swpd m0 k).set k pq).set q pk = swpd m0 (k + 1)) := by
            show _ = _
            have := swpd_step (l := m0) (k := k) (p := pk) (q := pq) (by rw [HML2.out, hnh]; exact hlt) hpk (by rw [HML2.out, hq]; exact hpq)
            rw [HML2.out, hq] at this
            exact this
          have kB := kB.out
          obtain ⟨a0, a1, a2⟩ := pcells_at hpk
          obtain ⟨b0, b1, b2⟩ := pcells_at hpq
          have x0 := kB.at_ a0
          have x1 := kB.at_ a1
          have x2 := kB.at_ a2
          have y0 := kB.at_ b0
          have y1 := kB.at_ b1
          have y2 := kB.at_ b2
          have hL0 : (pcells (swpd m0 k)).length = n9 * 3 := by rw [pcells_len, hlen]
          have k1 := kB.set_ (i := k * 3) (by omega) (.int .i64 pq.lo)
          have k2 := k1.set_ (i := k * 3 + 1) (by rw [List.length_set]; omega) (.int .i64 pq.hi)
          have k3 := k2.set_ (i := k * 3 + 2) (by rw [List.length_set, List.length_set]; omega) (.bool pq.neg)
          rw [pcells_set pq (by omega)] at k3
          have hL3 : (pcells ((swpd m0 k).set k pq)).length = n9 * 3 := by rw [pcells_len, List.length_set, hlen]
          have k4 := k3.set_ (i := q * 3) (by omega) (.int .i64 pk.lo)
          have k5 := k4.set_ (i := q * 3 + 1) (by rw [List.length_set]; omega) (.int .i64 pk.hi)
          have k6 := k5.set_ (i := q * 3 + 2) (by rw [List.length_set, List.length_set]; omega) (.bool pk.neg)
          rw [pcells_set pk (by rw [List.length_set]; omega), HST.out] at k6
          have f0 := kB.frozen
          have f1 := k1.frozen
          have f2 := k2.frozen
          have f3 := k3.frozen
          have f4 := k4.frozen
          have f5 := k5.frozen
          have l0 := kB.lt
          have KF := Lib.hid (CB_drew k6)
          have GF := Lib.hid (grown_drew (only_setCell (only_setCell (only_setCell (only_setCell (only_setCell (only_setCell hgr.out (p := ⟨g3, k * 3, none⟩) (.inl rfl) (.int .i64 pq.lo)) (p := ⟨g3, k * 3 + 1, none⟩) (.inl rfl) (.int .i64 pq.hi)) (p := ⟨g3, k * 3 + 2, none⟩) (.inl rfl) (.bool pq.neg)) (p := ⟨g3, q * 3, none⟩) (.inl rfl) (.int .i64 pk.lo)) (p := ⟨g3, q * 3 + 1, none⟩) (.inl rfl) (.int .i64 pk.hi)) (p := ⟨g3, q * 3 + 2, none⟩) (.inl rfl) (.bool pk.neg)))
          clear k1 k2 k3 k4 k5 k6 a0 a1 a2 b0 b1 b2 hpk hpq hL0 hL3 kB hgr hlen HST kM kN rL hbl hq
          go_upto_region 14 with fail
          go_region
          go_wp2_with fail
          go_roundw
          case rel => exact ⟨k + 1, by omega, by go_num, GF, KF⟩
          case measure => simp [RowKit.intOf]; omega
        · obtain rfl : k = nh := by omega
          have hd : decide ((k : Int) < (k : Int)) = false := decide_eq_false (by omega)
          have hk4 : k ≤ 4 := by omega
          have hk4i : (k : Int) ≤ 4 := by omega
          have esw : swpd m0 k = m0.reverse := by rw [← hnh, ← HML2.out]; exact swpd_half m0
          have kB := kB.out
          rw [esw] at kB
          have rM := parts_of_cb kB
          rw [List.length_reverse, HML2.out] at rM
          replace kM := kM.grown hgr.out (fun e => hne3 (by injection e))
          replace kN := kN.grown hgr.out (fun e => hne2 (by injection e))
          replace rL := parts_grown rL hgr.out (fun g e _ => by cases e; exact hne1)
          replace hbl := hbl.grown hgr.out hbl.size (fun q hq => by cases hq; exact hg3b)
          have hbf := Below.refl wr.heap.size wr
          obtain ⟨x1, y1, z1, C1, q1⟩ := count_any (some ⟨g1, 0, none⟩) n9 c2 L9 l2 h2 (by omega)
          obtain ⟨x2, y2, z2, C2, q2⟩ := count_any (some ⟨g3, 0, none⟩) n9 cap3 m0.reverse (l2 + p0.sgn bb) (h2 + p0.sgn bb) (by omega)
          have HC1 : Hid (∀ w', Below wr.heap.size wr w' → _) := fun w' h => C1 w' (rL.later h)
          have HC2 : Hid (∀ w', Below wr.heap.size wr w' → _) := fun w' h => C2 w' (rM.later h)
          have HG1 := moves_good p0 tl bb l2 h2
          have HG2 := moves_len p0 tl bb
          rw [HM0.out, ← HTL.out] at HG1 HG2
          have HGG := Lib.hid (And.intro HG1 HG2)
          generalize p0.sgn bb = sg at *
          clear C1 C2 rL rM kB esw hgr HG1 HG2 HTL HM0 HML HML2 HOK HB0 hnh
          have ckN := kN.cell
          have lkN := kN.lt
          have ckM := kM.cell
          have lkM := kM.lt
          go_wp2_with fail
          refine (HC1.out _ hbf).mono ?_
          rintro e wc5 ⟨rfl, hbc⟩
          replace kN := kN.later hbc
          replace kM := kM.later hbc
          replace hbf := hbf.trans (hbc.mono hbf.size)
          replace hbl := hbl.trans (hbc.mono hbl.size)
          clear hbc
          clear ckN lkN ckM lkM
          have ckN := kN.cell
          have lkN := kN.lt
          have ckM := kM.cell
          have lkM := kM.lt
          go_wp2_with fail
          refine (HC2.out _ hbf).mono ?_
          rintro e wc6 ⟨rfl, hbc⟩
          replace hbl := hbl.trans (hbc.mono hbl.size)
          clear hbc
          clear ckN lkN ckM lkM
          rcases q1 with rfl | ⟨rfl, hx1, hy1⟩
          · rcases q2 with rfl | ⟨rfl, hx2, hy2⟩
            · go_wp2_with fail
              refine (lives_any _).mono ?_
              rintro e wc7 ⟨rfl, hbc⟩
              replace hbl := hbl.trans (hbc.mono hbl.size)
              clear hbc
              go_wp2_with fail
              go_ret
              exact ⟨rfl, hbl⟩
            · go_wp2_with fail
              refine (lives_any _).mono ?_
              rintro e wc8 ⟨rfl, hbc⟩
              replace hbl := hbl.trans (hbc.mono hbl.size)
              clear hbc
              go_wp2_with fail
              go_ret
              exact ⟨rfl, hbl⟩
          · rcases q2 with rfl | ⟨rfl, hx2, hy2⟩
            · go_wp2_with fail
              refine (lives_any _).mono ?_
              rintro e wc9 ⟨rfl, hbc⟩
              replace hbl := hbl.trans (hbc.mono hbl.size)
              clear hbc
              go_wp2_with fail
              go_ret
              exact ⟨rfl, hbl⟩
            · obtain rfl : x1 = x2 := by rw [hx1, hx2, HGG.out.1]
              obtain rfl : y1 = y2 := by rw [hy1, hy2, HGG.out.2]
              clear HGG hx1 hy1 hx2 hy2
              go_wp2_with fail
              refine (lives_any _).mono ?_
              rintro e wc10 ⟨rfl, hbc⟩
              replace hbl := hbl.trans (hbc.mono hbl.size)
              clear hbc
              go_wp2_with fail
              go_ret
              exact ⟨rfl, hbl⟩
end Go.Proofs.Ytpklcjbdmikbdaa.fitMoves
namespace Go.Proofs.Ytpklcjbdmikbdaa.fitMoves
open Go.ChangeShapes Go.WideShapes Go.ChangeAt Go.RowKit


set_option maxHeartbeats 2000000 in
set_option maxHeartbeats 4000000 in
set_option maxRecDepth 100000 in
theorem lifted (os : Os) (started : os.Started) (H : Type) (enc : TypeId × Value → H) :
    ReturnsInHanded {} Try.checked os 6 .any (Rows.fitMovesSpec.pre6 enc Try.prog Try.f6 Rows.fitMovesRow.domain false) (Rows.fitMovesSpec.post enc Try.prog Try.f6 false true false false) := by
  refine returnsInHanded_of_change (C := Try.checked) Try.own started (by kernel_rfl) Try.func6
    (ChangeSpec.witness6 (enc := enc) (C := Try.checked) false ⟨#[], #[.slice none 0 0, .agg #[.int .i64 0, .int .i64 0], .int .i64 0], []⟩ 8 (by kernel_rfl) (by kernel_rfl) (by kernel_rfl) (by kernel_rfl)) ?_
  intro W base args ds gs before hval0 hW hcnd _
  have hval : ∀ (j : Nat) t v, Try.f6.params[j]? = some t → args[j]? = some v → Value.okWide Try.prog W .any base t v := hval0
  have hW' := hW
  obtain ⟨p, q, hA0, hV, rfl, hfz, hnd⟩ := hW
  have hA : DataW.TrodAll enc Try.prog W 0 (fun _ => true) true Try.f6.params.toList args.toList ds p := hA0
  rw [Try.params6] at hA hval
  obtain ⟨v0, vs0, d0, ds0, p0, q0, hargs, rfl, rfl, h0, r0⟩ := trodAll_cons hA
  obtain ⟨v1, vs1, d1, ds1, p1, q1, rfl, rfl, rfl, h1, r1⟩ := trodAll_cons r0
  obtain ⟨v2, vs2, d2, ds2, p2, q2, rfl, rfl, rfl, h2, r2⟩ := trodAll_cons r1
  obtain ⟨rfl, rfl, rfl⟩ := trodAll_nil r2
  obtain rfl : args = #[v0, v1, v2] := by cases args; simp_all
  obtain ⟨rfl, rfl⟩ := trodVars_none hV
  obtain ⟨A0, n0, c0, l0, rfl, x0, y0, u0⟩ := open_R (hval 0 22 v0 rfl rfl) h0
  obtain ⟨a1, b1, rfl, w1, z1⟩ := open_Gw (hval 1 26 v1 rfl rfl) h1
  obtain ⟨a2, rfl, rfl, rfl, w2⟩ := open_int Try.underlying3 (hval 2 3 v2 rfl rfl) h2
  refine (walk A0 n0 c0 a1 b1 a2 l0 W x0 y0 u0 w1 z1).mono fun e W' ⟨he, hb⟩ => ?_
  exact ⟨_, he, law_post rfl (by kernel_rfl) (by kernel_rfl) hW' rfl rfl rfl hb⟩

set_option maxHeartbeats 4000000 in
set_option maxRecDepth 100000 in
theorem facts : joinedFacts Try.prog 6 Try.f6 Rows.fitMovesSpec Rows.fitMovesRow = true := by
  unfold joinedFacts
  repeat' (with_reducible refine and_t ?_ ?_)
  all_goals first
    | with_reducible exact Try.enters
    | (rw [Try.finals]; as_aux_lemma => kernel_rfl)
    | (rw [Try.made]; as_aux_lemma => kernel_rfl)
    | (as_aux_lemma => kernel_rfl)

theorem proved : Rows.FitMovesSaid :=
  OpenClaim.holds_of_wide 6 Try.f6 rfl rfl rfl rfl rfl rfl rfl ⟨rfl, rfl, rfl, rfl, rfl⟩ rfl rfl rfl rfl rfl (by as_aux_lemma => kernel_rfl) Try.func6 facts
    (of_decide_eq_true (by as_aux_lemma => kernel_rfl)) (by unfold Func.isWrapper; rw [if_neg (of_decide_eq_false (by kernel_rfl))]; exact ⟨rfl, rfl⟩)
    (fun os started H enc _ => lifted os started H enc)
#print axioms proved
end Go.Proofs.Ytpklcjbdmikbdaa.fitMoves
