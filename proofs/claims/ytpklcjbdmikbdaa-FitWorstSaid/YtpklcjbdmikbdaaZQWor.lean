/-
Proved: FitWorst: every choice fits exactly if the span of the gaps lies in need; then the yield is 1.
  Conditions: none.
-/
import Derived.Test.YtpklcjbdmikbdaaGQ
import Derived.Test.YtpklcjbdmikbdaaGO
namespace Go.Proofs.Ytpklcjbdmikbdaa
open Go.RowKit

def pcells : List Prt → List Value
  | [] => []
  | p :: l => .int .i64 p.lo :: .int .i64 p.hi :: .bool p.neg :: pcells l
theorem pcells_len : ∀ l : List Prt, (pcells l).length = l.length * 3
  | [] => rfl
  | p :: l => by simp only [pcells, List.length_cons, pcells_len l]; omega
theorem pcells_at : ∀ {l : List Prt} {k : Nat} {p : Prt}, l[k]? = some p → (pcells l)[k * 3]? = some (.int .i64 p.lo) ∧ (pcells l)[k * 3 + 1]? = some (.int .i64 p.hi) ∧ (pcells l)[k * 3 + 2]? = some (.bool p.neg)
  | [], _, _, h => by simp at h
  | q :: l, 0, p, h => by
    obtain rfl : q = p := by simpa using h
    exact ⟨rfl, rfl, rfl⟩
  | q :: l, k + 1, p, h => by
    have h' : l[k]? = some p := by simpa using h
    obtain ⟨a, b, c⟩ := pcells_at h'
    rw [show (k + 1) * 3 = k * 3 + 3 by omega]
    exact ⟨a, b, c⟩
theorem pcells_of : ∀ {l : List Prt} {j : Nat} {u : Value}, (pcells l)[j]? = some u → ∃ (k : Nat) (p : Prt), l[k]? = some p ∧ ((j = k * 3 ∧ u = .int .i64 p.lo) ∨ (j = k * 3 + 1 ∧ u = .int .i64 p.hi) ∨ (j = k * 3 + 2 ∧ u = .bool p.neg))
  | [], _, _, h => by simp [pcells] at h
  | p :: l, 0, u, h => ⟨0, p, rfl, .inl ⟨rfl, by simpa [pcells] using h.symm⟩⟩
  | p :: l, 1, u, h => ⟨0, p, rfl, .inr (.inl ⟨rfl, by simpa [pcells] using h.symm⟩)⟩
  | p :: l, 2, u, h => ⟨0, p, rfl, .inr (.inr ⟨rfl, by simpa [pcells] using h.symm⟩)⟩
  | p :: l, j + 3, u, h => by
    obtain ⟨k, q, h1, h2⟩ := pcells_of (l := l) (j := j) (u := u) (by simpa [pcells] using h)
    refine ⟨k + 1, q, by simpa using h1, ?_⟩
    rcases h2 with ⟨a, b⟩ | ⟨a, b⟩ | ⟨a, b⟩
    · exact .inl ⟨by omega, b⟩
    · exact .inr (.inl ⟨by omega, b⟩)
    · exact .inr (.inr ⟨by omega, b⟩)
theorem pcells_one (l : List Prt) : ∀ u ∈ pcells l, u.oneCell' = true := by
  intro u hu
  obtain ⟨j, hj⟩ := List.mem_iff_getElem?.1 hu
  obtain ⟨k, p, _, h⟩ := pcells_of hj
  rcases h with ⟨_, rfl⟩ | ⟨_, rfl⟩ | ⟨_, rfl⟩ <;> rfl
theorem own_parts {w : World} {base n c : Nat} {A : Option Addr} {l : List Prt} (h : w.ownsRow base 53 3 (.slice A n c) n (pcells l)) (hn : l.length = n) : PartsH w A n l := by
  refine ⟨hn, fun h0 => ?_⟩
  obtain ⟨g, cap, e, _, hg⟩ := h.form h0
  injection e with e1 e2 e3
  subst e1 e3
  refine ⟨g, rfl, hg, fun k p hk => ?_⟩
  have hkn : k < n := by have := (List.getElem?_eq_some_iff.1 hk).1; omega
  obtain ⟨a, b, c⟩ := pcells_at hk
  exact ⟨(h.cellAt (k * 3) (by omega)).trans a, (h.cellAt (k * 3 + 1) (by omega)).trans b, (h.cellAt (k * 3 + 2) (by omega)).trans c⟩
theorem PartAny.later {w w' : World} {a : Addr} {p : Prt} (h : PartAny w a p) (ha : a.block < w.heap.size) (hb : Below w.heap.size w w') : PartAny w' a p :=
  ⟨(hb.cell ha).trans h.1, (hb.cell (p := ⟨a.block, a.off + 1, none⟩) ha).trans h.2.1, (hb.cell (p := ⟨a.block, a.off + 2, none⟩) ha).trans h.2.2⟩
theorem PartsA.later {w w' : World} {A : Option Addr} {n : Nat} {l : List Prt} (h : PartsA w A n l) (hb : Below w.heap.size w w') : PartsA w' A n l :=
  ⟨h.1, fun hn => by
    obtain ⟨a, e, ha, hc⟩ := h.2 hn
    exact ⟨a, e, Nat.lt_of_lt_of_le ha hb.size, fun k p hk => (hc k p hk).later (by rw [add_block]; exact ha) hb⟩⟩
theorem PartsA.take {w : World} {A : Option Addr} {n m : Nat} {l : List Prt} (h : PartsA w A n l) (hm : m ≤ n) : PartsA w A m (l.take m) := by
  refine ⟨by rw [List.length_take, h.1]; omega, fun h0 => ?_⟩
  obtain ⟨a, e, ha, hc⟩ := h.2 (by omega)
  refine ⟨a, e, ha, fun k p hk => hc k p ?_⟩
  have hkm : k < m := by have := (List.getElem?_eq_some_iff.1 hk).1; rw [List.length_take] at this; omega
  rwa [List.getElem?_take_of_lt hkm] at hk
theorem parts_news {w : World} {a : Addr} {n : Nat} {l : List Prt} (h : PartsA w (some a) n l) (hn : 0 < n) : ∀ j u, (pcells l)[j]? = some u → w.cell? (a.add j) = some u := by
  obtain ⟨a', e, ha, hc⟩ := h.2 hn
  cases e
  intro j u hj
  obtain ⟨k, p, hk, h3⟩ := pcells_of hj
  obtain ⟨c0, c1, c2⟩ := hc k p hk
  rcases h3 with ⟨rfl, rfl⟩ | ⟨rfl, rfl⟩ | ⟨rfl, rfl⟩
  · exact c0
  · rw [← add_off _ 1 (by omega)]; exact c1
  · rw [← add_off _ 2 (by omega)]; exact c2
theorem info53 : (Try.prog.info? 53).map (fun i => (i.zero, i.size, i.bytes)) = some (some (.agg #[.int .i64 0, .int .i64 0, .bool false]), 3, 24) := by kernel_rfl
theorem app_parts (w : World) {ops : Array Oper} {rest : List Oper} {o : Oper} {a : Act} {Q : Exit → Act → World → Prop} (hgd : o.guard = none) (s x : Operand)
    (ho : o.op = .call { callee := .builtin .append, args := #[s, x], argTypes := #[22, 22] }) (base : Nat) (v : Value) (n : Nat) (xs : List Prt) (hs : a.eval s = v) (hown : w.ownsRow base 53 3 v n (pcells xs))
    (ao : Option Addr) (m c : Nat) (l : List Prt) (hx : a.eval x = .slice ao m c) (hr : PartsA w ao m l) (hn : n + m ≤ 100000) (hbase : base ≤ w.heap.size)
    (h : ∀ v' w', w'.ownsRow base 53 3 v' (n + m) (pcells xs ++ pcells l) → w.grownBy w' v.ownBlock → wpList Try.prog ops Q rest (a.put o.dst v') w') : wpList Try.prog ops Q (o :: rest) a w := by
  obtain ⟨i0, hi, hz0, hz1, hz2⟩ := info_parts info53
  rcases Nat.eq_zero_or_pos m with z | z
  · subst z
    have hl : l = [] := List.eq_nil_of_length_eq_zero hr.1
    subst hl
    have hsrc : Src Try.prog i0.size 22 (.slice ao 0 c) 0 [] w := by
      cases ao with
      | none => exact Src.ofNil w Try.underlying22 c
      | some ad => exact Src.ofSlice w Try.underlying22 ad 0 c [] (by simp) (by simp) (by simp)
    obtain ⟨b, sl, sc, hv, hle⟩ : ∃ b sl sc, v = .slice b sl sc ∧ sl ≤ sc := by
      rcases hown.2 with ⟨h1, _⟩ | ⟨g, cap, cur, h1, _, _, h2, _⟩
      · exact ⟨_, _, _, h1, Nat.le_refl _⟩
      · exact ⟨_, _, _, h1, h2⟩
    have hrun := run_append_nothing (P := Try.prog) w 22 22 o.type 53 i0 Try.underlying22 hi b sl sc hle _ hsrc
    rw [← hv] at hrun
    refine wpList_plain hgd fun K hK => ?_
    unfold Oper.wp
    simp [execOp, ho, resolve, invoke, builtin, hs, hx, hrun, Result.andThen]
    exact hK _ _ (h v w (by simpa [pcells] using hown) (World.grownBy.refl _ _))
  · obtain ⟨ad, e, _, _⟩ := hr.2 z
    subst e
    refine wpList_append_lies w hgd s x 22 ho base 53 i0 _ 3 24 Try.underlying22 hi hz0 hz1 hz2 rfl (by decide) v n _ hs hown ad m c (pcells l) hx (by rw [pcells_len, hr.1]) (parts_news hr z) (pcells_one _) z (by unfold maxLen; omega) (by omega) hbase _ rfl ?_
    intro g cap w' hown' hgr _ _
    exact h _ _ hown' hgr
/-- What parts returns. -/
def PartR (w : World) (l : List Prt) (e : Ending) (w' : World) : Prop := ∃ A c, e = .returned (.slice A l.length c) ∧ PartsH w' A l.length l ∧ Below w.heap.size w w'
theorem PartR.of {w w1 : World} {l : List Prt} {k : Nat} {v : Value} (hl : l.length = k) (h1 : w1.ownsRow w.heap.size 53 3 v k (pcells l)) (h2 : (w.alloc (.cells #[] 53)).grownBy w1 (some w.heap.size)) : PartR w l (.returned v) w1 := by
  have hb : Below w.heap.size w w1 := ((Below.refl _ _).alloc (Nat.le_refl _) _).grown h2 (by simp) (fun q hq => by simp at hq; omega)
  subst hl
  obtain ⟨A, c, rfl⟩ := own_slice h1
  exact ⟨A, c, rfl, own_parts h1 rfl, hb⟩
set_option maxRecDepth 100000 in
set_option maxHeartbeats 4000000 in
theorem parts_any (A : Option Addr) (n c : Nat) (l : List Prt) (w : World) (rA : PartsA w A n l) (hc : n ≤ c) (hnil : A = none → c = 0) :
    Calls Try.prog 27 #[.slice A n c] w (PartR w (l.take 9)) := by
  have hb0 : Below w.heap.size w (w.alloc (.cells #[] 53)) := (Below.refl _ _).alloc (Nat.le_refl _) _
  have hmade : (w.alloc (.cells #[] 53)).ownsRow w.heap.size 53 3 (.slice (some ⟨w.heap.size, 0, none⟩) 0 0) 0 (pcells []) := World.ownsRow_made (base := w.heap.size) (e := 53) (size := 3) w #[] 0 (by simp) (by unfold maxLen; omega) (by simp)
  have hll := Lib.hid rA.1
  have rA1 := rA.later hb0
  obtain ⟨k, hk⟩ : ∃ k, k = min n 9 := ⟨_, rfl⟩
  have hmin : min (n : Int) 9 = (k : Int) := by omega
  have hT := rA1.take (m := k) (by omega)
  have HC : Hid ((l.take 9).length = k) := by show _ = _; rw [List.length_take]; have := hll.out; omega
  have e1 : Hid (l.take 9 = l.take k) := by
    show _ = _
    have h1 := hll.out
    rcases Nat.le_total n 9 with h | h
    · rw [List.take_of_length_le (by omega), List.take_of_length_le (by omega)]
    · rw [show k = 9 by omega]
  have hkc : k ≤ c := by omega
  have hkci : (k : Int) ≤ (c : Int) := by omega
  have hkq : k ≤ 100 := by omega
  have hnil' := Lib.hid hnil
  clear rA hb0 hk rA1 hnil
  rcases A with _ | a
  · have hc0 := hnil'.out rfl
    have hk0 : k = 0 := by omega
    subst hc0 hk0
    go_enter Try.func27, Try.ntmps27
    go_wp2_with (at_builtin; refine app_parts _ rfl (.tmp 3) (.tmp 8) rfl w.heap.size _ 0 [] rfl hmade none 0 0 (l.take 0) rfl hT (by omega) (by simp) ?_)
    all_goals
      intro v w1 hown hgr
      have hown2 : w1.ownsRow w.heap.size 53 3 v 0 (pcells (l.take 9)) := by rw [e1.out]; simpa [pcells] using hown
      have hfin := PartR.of HC.out hown2 (by simpa [Value.ownBlock] using hgr)
      have HFin := Lib.hid hfin
      clear hfin hown hown2 hgr
      go_wp2_with fail
      go_ret
      exact HFin.out
  · go_enter Try.func27, Try.ntmps27
    go_wp2_with (at_builtin; refine app_parts _ rfl (.tmp 3) (.tmp 8) rfl w.heap.size _ 0 [] rfl hmade (some a) k c (l.take k) rfl hT (by omega) (by simp) ?_)
    all_goals
      intro v w1 hown hgr
      have hown2 : w1.ownsRow w.heap.size 53 3 v k (pcells (l.take 9)) := by rw [e1.out]; simpa [pcells] using hown
      have hfin := PartR.of HC.out hown2 (by simpa [Value.ownBlock] using hgr)
      have HFin := Lib.hid hfin
      clear hfin hown hown2 hgr
      go_wp2_with fail
      go_ret
      exact HFin.out
end Go.Proofs.Ytpklcjbdmikbdaa
namespace Go.Proofs.Ytpklcjbdmikbdaa
open Go.RowKit

set_option maxHeartbeats 4000000 in
theorem always_no (A : Option Addr) (n c : Nat) (l : List Prt) (lo hi : Int) (w : World) (rA : PartsH w A n l) (hn : n ≤ 1000) (hr : (rightB l && spanB lo hi) = false) : Calls Try.prog 38 #[.slice A n c, .agg #[.int .i64 lo, .int .i64 hi]] w fun e w' => e = .returned (.tuple #[.bool false, .int .i64 1]) ∧ Below w.heap.size w w' := by
  have hb1 : Below w.heap.size w (w.alloc (.cells #[.int .i64 lo, .int .i64 hi] 26)) := (Below.refl _ _).alloc (Nat.le_refl _) _
  have k1 := Blk.new w 26 #[.int .i64 lo, .int .i64 hi]
  have M := right_any A n c l _ (rA.later hb1) hn
  cases hrb : rightB l with
  | false =>
    rw [hrb] at M
    have HM := Lib.hid M
    clear M hr hrb
    go_enter Try.func38, Try.ntmps38
    go_wp2_with fail
    refine HM.out.mono ?_
    rintro e w2 ⟨rfl, hb2⟩
    have hb3 := hb1.trans (hb2.mono hb1.size)
    clear HM hb1 hb2 k1
    go_wp2_with fail
    go_ret2
    exact ⟨rfl, hb3⟩
  | true =>
    rw [hrb] at M hr
    have hsp : spanB lo hi = false := by simpa using hr
    have HM := Lib.hid M
    have HV : Hid (∀ w, Calls Try.prog 62 #[.agg #[.int .i64 lo, .int .i64 hi]] w fun e w' => e = .returned (.bool false) ∧ Below w.heap.size w w') := fun w => by have := valid_any lo hi w; rw [hsp] at this; exact this
    clear M hr hrb hsp
    go_enter Try.func38, Try.ntmps38
    go_wp2_with fail
    refine HM.out.mono ?_
    rintro e w2 ⟨rfl, hb2⟩
    have k2 := k1.later hb2
    have c2 := k2.cell
    have l2 := k2.lt
    have hb3 := hb1.trans (hb2.mono hb1.size)
    clear HM hb1 hb2 k1
    go_wp2_with fail
    refine (HV.out _).mono ?_
    rintro e w3 ⟨rfl, hb4⟩
    have hb5 := hb3.trans (hb4.mono hb3.size)
    clear c2 l2 hb3 hb4
    go_wp2_with fail
    go_ret2
    exact ⟨rfl, hb5⟩
set_option maxHeartbeats 4000000 in
theorem always_yes (A : Option Addr) (n c : Nat) (l : List Prt) (lo hi : Int) (w : World) (rA : PartsH w A n l) (hr : rightB l = true) (hsp : spanB lo hi = true) : Calls Try.prog 38 #[.slice A n c, .agg #[.int .i64 lo, .int .i64 hi]] w fun e w' => e = .returned (.tuple #[.bool ((decide (lo ≤ lowL l) && decide (lowL l ≤ hi)) && (decide (lo ≤ highL l) && decide (highL l ≤ hi))), .int .i64 0]) ∧ Below w.heap.size w w' := by
  obtain ⟨hok, h1, h8⟩ := rightB_iff.1 hr
  have hn : n ≤ 8 := by rw [← rA.1]; exact h8
  have hb1 : Below w.heap.size w (w.alloc (.cells #[.int .i64 lo, .int .i64 hi] 26)) := (Below.refl _ _).alloc (Nat.le_refl _) _
  have k1 := Blk.new w 26 #[.int .i64 lo, .int .i64 hi]
  have M := right_any A n c l _ (rA.later hb1) (by omega)
  rw [hr] at M
  have HM := Lib.hid M
  have HV : Hid (∀ w, Calls Try.prog 62 #[.agg #[.int .i64 lo, .int .i64 hi]] w fun e w' => e = .returned (.bool true) ∧ Below w.heap.size w w') := fun w => by have := valid_any lo hi w; rw [hsp] at this; exact this
  have HOK := Lib.hid hok
  clear M hr hok hsp
  go_enter Try.func38, Try.ntmps38
  go_wp2_with fail
  refine HM.out.mono ?_
  rintro e w2 ⟨rfl, hb2⟩
  have k2 := k1.later hb2
  have c2 := k2.cell
  have l2 := k2.lt
  have hb3 := hb1.trans (hb2.mono hb1.size)
  clear HM hb1 hb2 k1
  go_wp2_with fail
  refine (HV.out _).mono ?_
  rintro e w3 ⟨rfl, hb4⟩
  have k3 := k2.later hb4
  have hb5 := hb3.trans (hb4.mono hb3.size)
  clear c2 l2 hb3 hb4
  have HE := Lib.hid (ends_any A n c l w3 (rA.later hb5) HOK.out hn)
  go_wp2_with fail
  refine HE.out.mono ?_
  rintro e w4 ⟨rfl, hb6⟩
  have k4 := k3.later hb6
  have hb7 := hb5.trans (hb6.mono hb5.size)
  obtain ⟨L, hL⟩ : ∃ L, L = lowL l := ⟨_, rfl⟩
  obtain ⟨H, hH⟩ : ∃ H, H = highL l := ⟨_, rfl⟩
  rw [← hL, ← hH]
  have HLO := Lib.hid hL
  have HHI := Lib.hid hH
  clear HE hb5 hb6 k2 k3 hL hH
  have kS := Blk.new w4 26 #[.int .i64 L, .int .i64 H]
  have hb8 : Below w4.heap.size w4 (w4.alloc (.cells #[.int .i64 L, .int .i64 H] 26)) := (Below.refl _ _).alloc (Nat.le_refl _) _
  have k5 := k4.later hb8
  have hb9 := hb7.trans (hb8.mono hb7.size)
  clear hb7 hb8
  go_upto_region 4 with fail
  revert kS k5 hb9
  generalize w4.alloc (.cells #[.int .i64 L, .int .i64 H] 26) = w5
  generalize w4.heap.size = Sb
  clear k4
  intro kS k5 hb9
  have cS := kS.cell
  have lS := kS.lt
  have c5 := k5.cell
  have l5 := k5.lt
  obtain ⟨b1, h1⟩ : ∃ b, (decide (lo ≤ L) && decide (L ≤ hi)) = b := ⟨_, rfl⟩
  have HI : Hid (∀ w, Calls Try.prog 65 #[.int .i64 L, .agg #[.int .i64 lo, .int .i64 hi]] w fun e w' => e = .returned (.bool b1) ∧ Below w.heap.size w w') := fun w => by rw [← h1]; exact inS_any L lo hi w
  have HJ := Lib.hid (fun w => inS_any H lo hi w)
  have HB := Lib.hid h1
  clear h1
  cases b1
  · go_wp2_with fail
    refine (HI.out _).mono ?_
    rintro e w6 ⟨rfl, hb10⟩
    go_wp2_with fail
    go_ret2
    exact ⟨by rw [← HLO.out, ← HHI.out, HB.out]; rfl, hb9.trans (hb10.mono hb9.size)⟩
  · go_wp2_with fail
    refine (HI.out _).mono ?_
    rintro e w6 ⟨rfl, hb10⟩
    have kS6 := kS.later hb10
    have k6 := k5.later hb10
    have hb11 := hb9.trans (hb10.mono hb9.size)
    clear cS lS c5 l5 kS k5 hb9 hb10
    have cS := kS6.cell
    have lS := kS6.lt
    have c5 := k6.cell
    have l5 := k6.lt
    go_wp2_with fail
    refine (HJ.out _).mono ?_
    rintro e w7 ⟨rfl, hb12⟩
    go_wp2_with fail
    go_ret2
    exact ⟨by rw [← HLO.out, ← HHI.out, HB.out]; rfl, hb11.trans (hb12.mono hb11.size)⟩
set_option maxHeartbeats 4000000 in
theorem ever_no (A : Option Addr) (n c : Nat) (l : List Prt) (lo hi : Int) (w : World) (rA : PartsH w A n l) (hn : n ≤ 1000) (hr : (rightB l && spanB lo hi) = false) : Calls Try.prog 39 #[.slice A n c, .agg #[.int .i64 lo, .int .i64 hi]] w fun e w' => e = .returned (.tuple #[.bool false, .int .i64 1]) ∧ Below w.heap.size w w' := by
  have hb1 : Below w.heap.size w (w.alloc (.cells #[.int .i64 lo, .int .i64 hi] 26)) := (Below.refl _ _).alloc (Nat.le_refl _) _
  have k1 := Blk.new w 26 #[.int .i64 lo, .int .i64 hi]
  have M := right_any A n c l _ (rA.later hb1) hn
  cases hrb : rightB l with
  | false =>
    rw [hrb] at M
    have HM := Lib.hid M
    clear M hr hrb
    go_enter Try.func39, Try.ntmps39
    go_wp2_with fail
    refine HM.out.mono ?_
    rintro e w2 ⟨rfl, hb2⟩
    have hb3 := hb1.trans (hb2.mono hb1.size)
    clear HM hb1 hb2 k1
    go_wp2_with fail
    go_ret2
    exact ⟨rfl, hb3⟩
  | true =>
    rw [hrb] at M hr
    have hsp : spanB lo hi = false := by simpa using hr
    have HM := Lib.hid M
    have HV : Hid (∀ w, Calls Try.prog 62 #[.agg #[.int .i64 lo, .int .i64 hi]] w fun e w' => e = .returned (.bool false) ∧ Below w.heap.size w w') := fun w => by have := valid_any lo hi w; rw [hsp] at this; exact this
    clear M hr hrb hsp
    go_enter Try.func39, Try.ntmps39
    go_wp2_with fail
    refine HM.out.mono ?_
    rintro e w2 ⟨rfl, hb2⟩
    have k2 := k1.later hb2
    have c2 := k2.cell
    have l2 := k2.lt
    have hb3 := hb1.trans (hb2.mono hb1.size)
    clear HM hb1 hb2 k1
    go_wp2_with fail
    refine (HV.out _).mono ?_
    rintro e w3 ⟨rfl, hb4⟩
    have hb5 := hb3.trans (hb4.mono hb3.size)
    clear c2 l2 hb3 hb4
    go_wp2_with fail
    go_ret2
    exact ⟨rfl, hb5⟩
set_option maxHeartbeats 4000000 in
theorem ever_yes (A : Option Addr) (n c : Nat) (l : List Prt) (lo hi : Int) (w : World) (rA : PartsH w A n l) (hr : rightB l = true) (hsp : spanB lo hi = true) : Calls Try.prog 39 #[.slice A n c, .agg #[.int .i64 lo, .int .i64 hi]] w fun e w' => e = .returned (.tuple #[.bool (decide (lowL l ≤ hi) && decide (lo ≤ highL l)), .int .i64 0]) ∧ Below w.heap.size w w' := by
  obtain ⟨hok, h1, h8⟩ := rightB_iff.1 hr
  have hn : n ≤ 8 := by rw [← rA.1]; exact h8
  have hb1 : Below w.heap.size w (w.alloc (.cells #[.int .i64 lo, .int .i64 hi] 26)) := (Below.refl _ _).alloc (Nat.le_refl _) _
  have k1 := Blk.new w 26 #[.int .i64 lo, .int .i64 hi]
  have M := right_any A n c l _ (rA.later hb1) (by omega)
  rw [hr] at M
  have HM := Lib.hid M
  have HV : Hid (∀ w, Calls Try.prog 62 #[.agg #[.int .i64 lo, .int .i64 hi]] w fun e w' => e = .returned (.bool true) ∧ Below w.heap.size w w') := fun w => by have := valid_any lo hi w; rw [hsp] at this; exact this
  have HOK := Lib.hid hok
  clear M hr hok hsp
  go_enter Try.func39, Try.ntmps39
  go_wp2_with fail
  refine HM.out.mono ?_
  rintro e w2 ⟨rfl, hb2⟩
  have k2 := k1.later hb2
  have c2 := k2.cell
  have l2 := k2.lt
  have hb3 := hb1.trans (hb2.mono hb1.size)
  clear HM hb1 hb2 k1
  go_wp2_with fail
  refine (HV.out _).mono ?_
  rintro e w3 ⟨rfl, hb4⟩
  have k3 := k2.later hb4
  have hb5 := hb3.trans (hb4.mono hb3.size)
  clear c2 l2 hb3 hb4
  have HE := Lib.hid (ends_any A n c l w3 (rA.later hb5) HOK.out hn)
  go_wp2_with fail
  refine HE.out.mono ?_
  rintro e w4 ⟨rfl, hb6⟩
  have k4 := k3.later hb6
  have hb7 := hb5.trans (hb6.mono hb5.size)
  obtain ⟨L, hL⟩ : ∃ L, L = lowL l := ⟨_, rfl⟩
  obtain ⟨H, hH⟩ : ∃ H, H = highL l := ⟨_, rfl⟩
  rw [← hL, ← hH]
  have HLO := Lib.hid hL
  have HHI := Lib.hid hH
  clear HE hb5 hb6 k2 k3 hL hH
  have kS := Blk.new w4 26 #[.int .i64 L, .int .i64 H]
  have hb8 : Below w4.heap.size w4 (w4.alloc (.cells #[.int .i64 L, .int .i64 H] 26)) := (Below.refl _ _).alloc (Nat.le_refl _) _
  have k5 := k4.later hb8
  have hb9 := hb7.trans (hb8.mono hb7.size)
  clear hb7 hb8
  go_upto_region 4 with fail
  revert kS k5 hb9
  generalize w4.alloc (.cells #[.int .i64 L, .int .i64 H] 26) = w5
  generalize w4.heap.size = Sb
  clear k4
  intro kS k5 hb9
  have cS := kS.cell
  have lS := kS.lt
  have c5 := k5.cell
  have l5 := k5.lt
  by_cases h1 : L ≤ hi
  · have d1 : decide (L ≤ hi) = true := decide_eq_true h1
    go_wp2_with fail
    go_ret2
    exact ⟨by rw [← HLO.out, ← HHI.out, d1]; rfl, hb9⟩
  · have d1 : decide (L ≤ hi) = false := decide_eq_false h1
    go_wp2_with fail
    go_ret2
    exact ⟨by rw [← HLO.out, ← HHI.out, d1]; rfl, hb9⟩
end Go.Proofs.Ytpklcjbdmikbdaa
namespace Go.Proofs.Ytpklcjbdmikbdaa
open Go.RowKit

set_option maxRecDepth 100000 in
set_option maxHeartbeats 8000000 in
theorem rStack_any (A : Option Addr) (n c : Nat) (l : List Prt) (w : World) (rA : PartsH w A n l) (hn : n ≤ 1000) : Calls Try.prog 29 #[.slice A n c] w fun e w' => e = .returned (.bool (rightB l)) ∧ Below w.heap.size w w' := by
  have HAn := Lib.hid rA.1
  have HI := Lib.hid (fun w => rin_any (n : Int) 1 8 w)
  have HR0 : Hid (rightB l = (l.all okB && (decide ((1 : Int) ≤ (n : Int)) && decide ((n : Int) ≤ 8)))) := by
    show _ = _
    unfold rightB
    rw [HAn.out]
    congr 1
    congr 1 <;> (apply Bool.eq_iff_iff.2; simp only [decide_eq_true_eq]; omega)
  cases hin : (decide ((1 : Int) ≤ (n : Int)) && decide ((n : Int) ≤ 8)) with
  | false =>
    have HI2 : Hid (∀ w, Calls Try.prog 60 #[.int .i64 (n : Int), .int .i64 1, .int .i64 8] w fun e w' => e = .returned (.bool false) ∧ w = w') := fun w => by have := HI.out w; rw [hin] at this; exact this
    have HR : Hid (rightB l = false) := by show _ = _; rw [HR0.out, hin, Bool.and_false]
    clear hin HI HR0
    go_enter Try.func29, Try.ntmps29
    go_wp2_with fail
    refine (HI2.out _).mono ?_
    rintro e w2 ⟨rfl, rfl⟩
    go_wp2_with fail
    go_ret
    exact ⟨by rw [HR.out]; rfl, Below.refl _ _⟩
  | true =>
    have HI2 : Hid (∀ w, Calls Try.prog 60 #[.int .i64 (n : Int), .int .i64 1, .int .i64 8] w fun e w' => e = .returned (.bool true) ∧ w = w') := fun w => by have := HI.out w; rw [hin] at this; exact this
    have HR : Hid (rightB l = l.all okB) := by show _ = _; rw [HR0.out, hin, Bool.and_true]
    clear hin HI HR0
    go_enter Try.func29, Try.ntmps29
    go_wp2_with fail
    refine (HI2.out _).mono ?_
    rintro e w2 ⟨rfl, rfl⟩
    clear HI2
    go_wp2_with fail
    go_loopw [3] (fun i wr => ∃ k : Nat, k ≤ n ∧ i = .int .i64 k ∧ Hid ((l.take k).all okB = true) ∧ Below w.heap.size w wr) (fun i _ => n - (RowKit.intOf i).toNat)
    case atStart => exact ⟨0, Nat.zero_le _, rfl, rfl, Below.refl _ _⟩
    case round =>
      obtain ⟨k, hk, rfl, hS, hb⟩ := hrel
      by_cases hlt : k < n
      · obtain ⟨g, p, rfl, hg, hlk, hp1, hp2, hp3⟩ := (rA.later hb).at_ hlt
        have hkn : (k : Int) < (n : Int) := by omega
        have HLK := Lib.hid hlk
        clear hlk
        have hd : decide ((k : Int) < (n : Int)) = true := decide_eq_true hkn
        have hxl := later_cell (w := wr)
        cases hsp : spanB p.lo p.hi with
        | false =>
          have HM : Hid (∀ w, Calls Try.prog 30 #[.agg #[.int .i64 p.lo, .int .i64 p.hi], .int .i64 1000000] w fun e w' => e = .returned (.bool false) ∧ Below w.heap.size w w') := fun w => by have := rSpan_any p.lo p.hi 1000000 w (by omega) (by omega); rw [span_same, hsp] at this; exact this
          have HR2 : Hid (rightB l = false) := right_not HLK.out (by unfold okB; rw [hsp]; rfl)
          clear hsp HR hS
          go_wp2_with fail
          refine wp_region_later (by kernel_rfl) (by kernel_rfl) ?_
          repeat (go_big_quiet_step ((go_at_call 30; exact later_call (HM.out _))))
          refine wpQuiet_nil ?_
          rintro w2 ⟨⟨_, hb2⟩, rfl⟩
          have hb3 := hb.trans (hb2.mono hb.size)
          clear hxl hp1 hp2 hp3 hb hb2 HM
          go_wp2_with fail
          go_ret
          exact ⟨by rw [HR2.out]; rfl, hb3⟩
        | true =>
          have HM : Hid (∀ w, Calls Try.prog 30 #[.agg #[.int .i64 p.lo, .int .i64 p.hi], .int .i64 1000000] w fun e w' => e = .returned (.bool true) ∧ Below w.heap.size w w') := fun w => by have := rSpan_any p.lo p.hi 1000000 w (by omega) (by omega); rw [span_same, hsp] at this; exact this
          obtain ⟨s1, s2, s3⟩ := spanB_iff.1 hsp
          by_cases hw : p.hi - p.lo ≤ 100
          · have HS2 := Lib.hid (all_snoc HLK.out hS.out (okB_iff.2 ⟨s1, s2, s3, hw⟩))
            have hwd : decide (p.hi - p.lo > 100) = false := by simp; omega
            clear hsp HR hS
            go_wp2_with fail
            refine wp_region_later (by kernel_rfl) (by kernel_rfl) ?_
            repeat (go_big_quiet_step ((go_at_call 30; exact later_call (HM.out _))))
            refine wpQuiet_nil ?_
            rintro w2 ⟨⟨_, hb2⟩, rfl⟩
            have hb3 := hb.trans (hb2.mono hb.size)
            clear hxl hp1 hp2 hp3 hb hb2 HM
            go_wp2_with fail
            go_roundw
            case rel => exact ⟨k + 1, by omega, by go_num, HS2.out, hb3⟩
            case measure => simp [RowKit.intOf]; omega
          · have HR2 : Hid (rightB l = false) := right_not HLK.out (by unfold okB; rw [hsp, decide_eq_false hw]; rfl)
            have hwd : decide (p.hi - p.lo > 100) = true := by simp; omega
            clear hsp HR hS
            go_wp2_with fail
            refine wp_region_later (by kernel_rfl) (by kernel_rfl) ?_
            repeat (go_big_quiet_step ((go_at_call 30; exact later_call (HM.out _))))
            refine wpQuiet_nil ?_
            rintro w2 ⟨⟨_, hb2⟩, rfl⟩
            have hb3 := hb.trans (hb2.mono hb.size)
            clear hxl hp1 hp2 hp3 hb hb2 HM
            go_wp2_with fail
            go_ret
            exact ⟨by rw [HR2.out]; rfl, hb3⟩
      · obtain rfl : k = n := by omega
        have HR2 : Hid (rightB l = true) := by
          show _ = _
          rw [HR.out]
          have := hS.out
          rwa [← HAn.out, List.take_length] at this
        clear hS
        go_wp2_with fail
        go_ret
        exact ⟨by rw [HR2.out]; rfl, hb⟩
end Go.Proofs.Ytpklcjbdmikbdaa
namespace Go.Proofs.Ytpklcjbdmikbdaa
open Go.RowKit

theorem grown_drew {w w' : World} {r : Option Nat} (h : w.grownBy w' r) : w.grownBy w'.drew r := ⟨h.os, h.tape, h.output, h.size, h.block⟩
set_option maxRecDepth 100000 in
set_option maxHeartbeats 8000000 in
theorem rGaps_any (A : Option Addr) (n c : Nat) (l : List Prt) (w : World) (rA : PartsH w A n l) (hok : okPs l) (hn : n ≤ 8) : Calls Try.prog 40 #[.slice A n c] w fun e w' => e = .returned (.agg #[.int .i64 (lowL l), .int .i64 (highL l)]) ∧ Below w.heap.size w w' := by
  have HAn := Lib.hid rA.1
  have HOK := Lib.hid hok
  have hsz : (w.alloc (.cells #[.int .i64 0, .int .i64 0] 26)).heap.size = w.heap.size + 1 := by simp
  have kR := (Blk.new w 26 #[.int .i64 0, .int .i64 0])
  have hb1 : Below w.heap.size w (w.alloc (.cells #[.int .i64 0, .int .i64 0] 26)) := (Below.refl _ _).alloc (Nat.le_refl _) _
  have hb2 : Below (w.alloc (.cells #[.int .i64 0, .int .i64 0] 26)).heap.size (w.alloc (.cells #[.int .i64 0, .int .i64 0] 26)) ((w.alloc (.cells #[.int .i64 0, .int .i64 0] 26)).alloc (.cells #[.int .i64 0, .int .i64 0] 26)) := (Below.refl _ _).alloc (Nat.le_refl _) _
  have kS := Blk.new (w.alloc (.cells #[.int .i64 0, .int .i64 0] 26)) 26 #[.int .i64 0, .int .i64 0]
  rw [hsz] at kS
  have kR2 := kR.later hb2
  have hb3 := hb1.trans (hb2.mono (by rw [hsz]; exact Nat.le_succ _))
  have HA : Hid (∀ wr, Below w.heap.size w wr → PartsH wr A n l) := fun wr hb => rA.later hb
  clear hok hsz kR hb1 hb2 rA
  go_enter Try.func40, Try.ntmps40
  go_upto_region 2 with fail
  revert kS kR2 hb3 HA
  generalize (w.alloc (.cells #[.int .i64 0, .int .i64 0] 26)).alloc (.cells #[.int .i64 0, .int .i64 0] 26) = w1
  generalize hNe : w.heap.size = N
  intro kS kR2 hb3 HA
  have HNe := Lib.hid hNe
  clear hNe
  have hlS := kS.lt
  have hl0 : lowL [] = 0 := rfl
  have hh0 : highL [] = 0 := rfl
  go_wp2_with fail
  go_loopw [4] (fun i wr => ∃ k : Nat, k ≤ n ∧ i = .int .i64 k ∧ Blk wr (N + 1) 26 #[.int .i64 (lowL (l.take k)), .int .i64 (highL (l.take k))] ∧ w1.grownBy wr (some (N + 1))) (fun i _ => n - (RowKit.intOf i).toNat)
  case atStart => exact ⟨0, Nat.zero_le _, rfl, kS, World.grownBy.refl _ _⟩
  case round =>
    clear kS hl0 hh0
    obtain ⟨k, hk, rfl, kS, hgr⟩ := hrel
    have kR := kR2.grown hgr (by simp)
    have hbw := hb3.grown hgr (by have h1 := hb3.size; rw [HNe.out] at h1; exact h1) (fun i hi => by cases hi; exact Nat.le_succ _)
    by_cases hlt : k < n
    · obtain ⟨g, p, rfl, hg, hlk, hp1, hp2, hp3⟩ := (HA.out wr hbw).at_ hlt
      have hkn : (k : Int) < (n : Int) := by omega
      have hp := okP_ends (HOK.out p (List.mem_of_getElem? hlk))
      obtain ⟨po1, po2, po3, po4⟩ := HOK.out p (List.mem_of_getElem? hlk)
      have hb := ends_take HOK.out (by rw [HAn.out]; exact hn) k
      obtain ⟨q1, q2⟩ := ends_step hlk
      obtain ⟨L, hL⟩ : ∃ L, L = lowL (l.take k) := ⟨_, rfl⟩
      obtain ⟨H, hH⟩ : ∃ H, H = highL (l.take k) := ⟨_, rfl⟩
      rw [← hL] at kS hb q1
      rw [← hH] at kS hb q2
      obtain ⟨b1, b2, b3⟩ := hb
      have HS0 := Lib.hid q1
      have HS1 := Lib.hid q2
      clear hL hH q1 q2 hlk hp
      have kP := Blk.new wr 53 #[.int .i64 p.lo, .int .i64 p.hi, .bool p.neg]
      have hba : Below wr.heap.size wr (wr.alloc (.cells #[.int .i64 p.lo, .int .i64 p.hi, .bool p.neg] 53)) := (Below.refl _ _).alloc (Nat.le_refl _) _
      have kS2 := kS.later hba
      have hgr2 := only_trans_below hgr hba
      have hlN := kS.lt
      go_upto_region 6 with fail
      clear hp1 hp2 hp3 hba kS hgr
      revert kP kS2 hgr2 hlN
      generalize wr.alloc (.cells #[.int .i64 p.lo, .int .i64 p.hi, .bool p.neg] 53) = w2
      generalize wr.heap.size = Pb
      intro kP2 kS2 hgr2 hlN
      cases hng : p.neg
      · rw [hng] at kP2
        have HE0 : Hid (L + p.low = L + p.lo) := by show _ = _; unfold Prt.low; rw [hng]; simp <;> omega
        have HE1 : Hid (H + p.high = H + p.hi) := by show _ = _; unfold Prt.high; rw [hng]; simp <;> omega
        have kS3 := kS2.set_ 0 (.int .i64 (L + p.lo))
        have kP3 := kP2.far (p := ⟨N + 1, 0, none⟩) (by simp; omega) (.int .i64 (L + p.lo))
        have kS4 := kS3.set_ 1 (.int .i64 (H + p.hi))
        have hgr3 := only_setCell hgr2 (p := ⟨N + 1, 0, none⟩) (.inl rfl) (.int .i64 (L + p.lo))
        have hgr4 := only_setCell hgr3 (p := ⟨N + 1, 1, none⟩) (.inl rfl) (.int .i64 (H + p.hi))
        have cS2 := kS2.cell
        have fS2 := kS2.frozen
        have cP2 := kP2.cell
        have lS2 := kS2.lt
        have lP2 := kP2.lt
        have cS3 := kS3.cell
        have fS3 := kS3.frozen
        have cP3 := kP3.cell
        have KS4 : Hid (Blk ((w2.setCell ⟨N + 1, 0, none⟩ (.int .i64 (L + p.lo))).setCell ⟨N + 1, 1, none⟩ (.int .i64 (H + p.hi))) (N + 1) 26 #[.int .i64 (lowL (l.take (k + 1))), .int .i64 (highL (l.take (k + 1)))]) := by
          have e0 := HS0.out
          have e1 := HS1.out
          rw [HE0.out] at e0
          rw [HE1.out] at e1
          rw [e0, e1]
          exact kS4
        have HG4 := Lib.hid hgr4
        clear kS2 kP2 kS3 kP3 kS4 hgr2 hgr3 hgr4 hbw kR
        go_wp2_with fail
        go_region
        go_wp2_with fail
        go_roundw
        case rel => exact ⟨k + 1, by omega, by go_num, KS4.out, grown_drew HG4.out⟩
        case measure => simp [RowKit.intOf]; omega
      · rw [hng] at kP2
        have HE0 : Hid (L + p.low = L - p.hi) := by show _ = _; unfold Prt.low; rw [hng]; simp <;> omega
        have HE1 : Hid (H + p.high = H - p.lo) := by show _ = _; unfold Prt.high; rw [hng]; simp <;> omega
        have kS3 := kS2.set_ 0 (.int .i64 (L - p.hi))
        have kP3 := kP2.far (p := ⟨N + 1, 0, none⟩) (by simp; omega) (.int .i64 (L - p.hi))
        have kS4 := kS3.set_ 1 (.int .i64 (H - p.lo))
        have hgr3 := only_setCell hgr2 (p := ⟨N + 1, 0, none⟩) (.inl rfl) (.int .i64 (L - p.hi))
        have hgr4 := only_setCell hgr3 (p := ⟨N + 1, 1, none⟩) (.inl rfl) (.int .i64 (H - p.lo))
        have cS2 := kS2.cell
        have fS2 := kS2.frozen
        have cP2 := kP2.cell
        have lS2 := kS2.lt
        have lP2 := kP2.lt
        have cS3 := kS3.cell
        have fS3 := kS3.frozen
        have cP3 := kP3.cell
        have KS4 : Hid (Blk ((w2.setCell ⟨N + 1, 0, none⟩ (.int .i64 (L - p.hi))).setCell ⟨N + 1, 1, none⟩ (.int .i64 (H - p.lo))) (N + 1) 26 #[.int .i64 (lowL (l.take (k + 1))), .int .i64 (highL (l.take (k + 1)))]) := by
          have e0 := HS0.out
          have e1 := HS1.out
          rw [HE0.out] at e0
          rw [HE1.out] at e1
          rw [e0, e1]
          exact kS4
        have HG4 := Lib.hid hgr4
        clear kS2 kP2 kS3 kP3 kS4 hgr2 hgr3 hgr4 hbw kR
        go_wp2_with fail
        go_region
        go_wp2_with fail
        go_roundw
        case rel => exact ⟨k + 1, by omega, by go_num, KS4.out, grown_drew HG4.out⟩
        case measure => simp [RowKit.intOf]; omega
    · obtain rfl : k = n := by omega
      have HT : Hid (l.take k = l) := by show _ = _; rw [← HAn.out, List.take_length]
      rw [HT.out] at kS
      obtain ⟨lo, hlo⟩ : ∃ lo, lo = lowL l := ⟨_, rfl⟩
      obtain ⟨hi, hhi⟩ : ∃ hi, hi = highL l := ⟨_, rfl⟩
      rw [← hlo, ← hhi] at kS
      have HLO := Lib.hid hlo
      have HHI := Lib.hid hhi
      clear hlo hhi
      have cS := kS.cell
      have cR := kR.cell
      have fR := kR.frozen
      have lR := kR.lt
      have lS := kS.lt
      go_wp2_with fail
      refine bodyPost_cell N 26 #[.int .i64 lo, .int .i64 hi] (.agg #[.int .i64 lo, .int .i64 hi]) ((kR.set_ 0 (.int .i64 lo)).set_ 1 (.int .i64 hi)) ?_ ⟨by rw [HLO.out, HHI.out], by rw [HNe.out]; exact (hbw.setCell (Nat.le_refl _) _).setCell (Nat.le_refl _) _⟩
      intro W' hW'
      simp [results, Try.results40, go_sem, hW']
end Go.Proofs.Ytpklcjbdmikbdaa
namespace Go.Proofs.Ytpklcjbdmikbdaa
open Go.RowKit

theorem wd_int {p : Prt} (h : okP p) : (p.wd : Int) = p.hi - p.lo + 1 := by unfold okP at h; unfold Prt.wd; omega
theorem gaps_step {l : List Prt} {k : Nat} {p : Prt} (h : l[k]? = some p) : (gapsL (l.take (k + 1))).length = (gapsL (l.take k)).length * p.wd := by
  rw [List.take_add_one, h, Option.toList_some, gapsL_snoc, spread_len]
set_option maxRecDepth 100000 in
set_option maxHeartbeats 8000000 in
theorem rChoices_any (A : Option Addr) (n c : Nat) (l : List Prt) (w : World) (rA : PartsH w A n l) (hok : okPs l) (hn : n ≤ 8) : Calls Try.prog 31 #[.slice A n c] w fun e w' => e = .returned (.int .i64 ((gapsL l).length : Nat)) ∧ Below w.heap.size w w' := by
  have HAn := Lib.hid rA.1
  have HOK := Lib.hid hok
  have HG0 : Hid ((gapsL (l.take 0)).length = 1) := rfl
  clear hok
  go_enter Try.func31, Try.ntmps31
  go_wp2_with fail
  go_loopw [3, 4] (fun m i wr => ∃ k q : Nat, k ≤ n ∧ i = .int .i64 k ∧ m = .int .i64 q ∧ Hid (q = (gapsL (l.take k)).length) ∧ Below w.heap.size w wr) (fun _ i _ => n - (RowKit.intOf i).toNat)
  case atStart => exact ⟨0, 1, Nat.zero_le _, rfl, rfl, HG0.out.symm, Below.refl _ _⟩
  case round =>
    clear HG0
    obtain ⟨k, q, hk, rfl, rfl, hS, hb⟩ := hrel
    by_cases hlt : k < n
    · obtain ⟨g, p, rfl, hg, hlk, hp1, hp2, hp3⟩ := (rA.later hb).at_ hlt
      have hkn : (k : Int) < (n : Int) := by omega
      have hd : decide ((k : Int) < (n : Int)) = true := decide_eq_true hkn
      obtain ⟨po1, po2, po3, po4⟩ := HOK.out p (List.mem_of_getElem? hlk)
      have hwd := wd_int (HOK.out p (List.mem_of_getElem? hlk))
      have hq : Hid (q * p.wd = (gapsL (l.take (k + 1))).length) := by show _ = _; rw [gaps_step hlk, hS.out]
      have hbd : q * p.wd ≤ 10828567056280801 := by
        rw [hq.out]
        exact choices_bound (okPs_take HOK.out _) (by rw [List.length_take, HAn.out]; omega)
      have hmul : (q : Int) * (p.hi - p.lo + 1) = ((q * p.wd : Nat) : Int) := by rw [← hwd]; push_cast; rfl
      have hqb : q ≤ 10828567056280801 := by
        rw [hS.out]
        exact choices_bound (okPs_take HOK.out _) (by rw [List.length_take, HAn.out]; omega)
      clear hlk hwd hS
      generalize q * p.wd = q2 at *
      go_wp2_with fail
      go_region
      go_wp2_with fail
      go_roundw
      case rel => exact ⟨k + 1, q2, by omega, by go_num, by first | rfl | rw [hmul] , hq, hb.drew⟩
      case measure => simp [RowKit.intOf]; omega
    · obtain rfl : k = n := by omega
      have HR2 : Hid (q = (gapsL l).length) := by
        show _ = _
        rw [hS.out, ← HAn.out, List.take_length]
      clear hS
      go_wp2_with fail
      go_ret
      exact ⟨by rw [← HR2.out]; rfl, hb⟩
theorem goodN_split (lo at_ hi : Int) (h1 : lo ≤ at_) (h2 : at_ < hi) (S : List Int) : goodN lo at_ S + goodN (at_ + 1) hi S = goodN lo hi S := by
  unfold goodN
  rw [← sum_add]
  congr 1
  refine List.map_congr_left fun x _ => ?_
  unfold inN
  by_cases a : lo ≤ x <;> by_cases b : x ≤ at_ <;> by_cases c : x ≤ hi
  all_goals first
    | (exfalso; omega)
    | (simp [a, b, c]; try omega)
end Go.Proofs.Ytpklcjbdmikbdaa
namespace Go.Proofs.Ytpklcjbdmikbdaa
open Go.RowKit

theorem opts_iff {p : Prt} (h : okP p) (y : Int) : y ∈ p.opts ↔ p.low ≤ y ∧ y ≤ p.high := by
  unfold okP at h
  constructor
  · intro hy
    have := mem_opts hy
    unfold Prt.low Prt.high
    rcases this with ⟨e, a, b⟩ | ⟨e, a, b⟩ <;> rw [e] <;> simp <;> omega
  · intro ⟨a, b⟩
    unfold Prt.low at a
    unfold Prt.high at b
    cases hn : p.neg
    · rw [hn] at a b
      simp at a b
      refine List.mem_map.2 ⟨(y - p.lo).toNat, List.mem_range.2 (by unfold Prt.wd; omega), ?_⟩
      unfold Prt.off
      rw [hn]
      simp
      omega
    · rw [hn] at a b
      simp at a b
      refine List.mem_map.2 ⟨(-y - p.lo).toNat, List.mem_range.2 (by unfold Prt.wd; omega), ?_⟩
      unfold Prt.off
      rw [hn]
      simp
      omega
theorem gaps_iff : ∀ l : List Prt, okPs l → ∀ x, x ∈ gapsL l ↔ lowL l ≤ x ∧ x ≤ highL l := by
  refine snoc_induct ?_ ?_
  · intro _ x
    simp [gapsL, lowL, highL]
    omega
  · intro l p ih hok x
    have hl : okPs l := fun q hq => hok q (by simp [hq])
    have hp : okP p := hok p (by simp)
    have e1 := okP_ends hp
    have e2 := (gapsL_facts l hl).2.2.1
    rw [gapsL_snoc, lowL_snoc, highL_snoc]
    unfold spread
    constructor
    · intro hx
      obtain ⟨g, hg, hx⟩ := List.mem_flatMap.1 hx
      obtain ⟨y, hy, rfl⟩ := List.mem_map.1 hx
      have a := (ih hl g).1 hg
      have b := (opts_iff hp y).1 hy
      omega
    · intro ⟨a, b⟩
      rcases Int.le_total x (highL l + p.low) with h | h
      · refine List.mem_flatMap.2 ⟨x - p.low, (ih hl _).2 (by omega), List.mem_map.2 ⟨p.low, (opts_iff hp _).2 (by omega), by omega⟩⟩
      · refine List.mem_flatMap.2 ⟨highL l, (ih hl _).2 (by omega), List.mem_map.2 ⟨x - highL l, (opts_iff hp _).2 (by omega), by omega⟩⟩
theorem good_cons (lo hi x : Int) (S : List Int) : goodN lo hi (x :: S) = inN lo hi x + goodN lo hi S := by unfold goodN; simp
theorem inN_le (lo hi x : Int) : inN lo hi x ≤ 1 := by unfold inN; split <;> omega
theorem inN_one {lo hi x : Int} : inN lo hi x = 1 ↔ lo ≤ x ∧ x ≤ hi := by unfold inN; split <;> simp_all
theorem good_all {lo hi : Int} : ∀ {S : List Int}, goodN lo hi S = S.length ↔ ∀ x ∈ S, lo ≤ x ∧ x ≤ hi
  | [] => by simp [goodN]
  | x :: S => by
    have ih := good_all (lo := lo) (hi := hi) (S := S)
    have h1 := inN_le lo hi x
    have h2 := goodN_le lo hi S
    rw [good_cons, List.length_cons]
    constructor
    · intro h y hy
      rcases List.mem_cons.1 hy with rfl | hy
      · exact inN_one.1 (by omega)
      · exact ih.1 (by omega) y hy
    · intro h
      have a := inN_one.2 (h x (by simp))
      have b := ih.2 fun y hy => h y (by simp [hy])
      omega
theorem good_pos {lo hi : Int} : ∀ {S : List Int}, 0 < goodN lo hi S ↔ ∃ x ∈ S, lo ≤ x ∧ x ≤ hi
  | [] => by simp [goodN]
  | x :: S => by
    have ih := good_pos (lo := lo) (hi := hi) (S := S)
    rw [good_cons]
    constructor
    · intro h
      rcases Nat.eq_zero_or_pos (goodN lo hi S) with z | z
      · have := inN_le lo hi x
        exact ⟨x, by simp, inN_one.1 (by omega)⟩
      · obtain ⟨y, hy, h⟩ := ih.1 z
        exact ⟨y, by simp [hy], h⟩
    · rintro ⟨y, hy, h⟩
      rcases List.mem_cons.1 hy with rfl | hy
      · have := inN_one.2 h
        omega
      · have := ih.2 ⟨y, hy, h⟩
        omega
theorem worst_all {l : List Prt} (h : okPs l) (lo hi : Int) : goodN lo hi (gapsL l) = (gapsL l).length ↔ lo ≤ lowL l ∧ highL l ≤ hi := by
  have e := (gapsL_facts l h).2.2.1
  rw [good_all]
  constructor
  · intro a
    exact ⟨(a _ ((gaps_iff l h _).2 ⟨Int.le_refl _, e⟩)).1, (a _ ((gaps_iff l h _).2 ⟨e, Int.le_refl _⟩)).2⟩
  · intro ⟨a, b⟩ x hx
    have := (gaps_iff l h x).1 hx
    omega
theorem worst_any {l : List Prt} (h : okPs l) {lo hi : Int} (hlh : lo ≤ hi) : 0 < goodN lo hi (gapsL l) ↔ lowL l ≤ hi ∧ lo ≤ highL l := by
  have e := (gapsL_facts l h).2.2.1
  rw [good_pos]
  constructor
  · rintro ⟨x, hx, a⟩
    have := (gaps_iff l h x).1 hx
    omega
  · intro ⟨a, b⟩
    rcases Int.le_total lo (lowL l) with c | c
    · exact ⟨lowL l, (gaps_iff l h _).2 (by omega), by omega⟩
    · exact ⟨lo, (gaps_iff l h _).2 (by omega), by omega⟩
theorem frac_one {q a : Nat} (ha : 0 < a) : (q / q.gcd a = 1 ∧ a / q.gcd a = 1) ↔ q = a := by
  constructor
  · intro ⟨h1, h2⟩
    have d1 := Nat.div_mul_cancel (Nat.gcd_dvd_left q a)
    have d2 := Nat.div_mul_cancel (Nat.gcd_dvd_right q a)
    rw [h1] at d1
    rw [h2] at d2
    omega
  · rintro rfl
    rw [Nat.gcd_self]
    exact ⟨Nat.div_self ha, Nat.div_self ha⟩
end Go.Proofs.Ytpklcjbdmikbdaa
namespace Go.Proofs.Ytpklcjbdmikbdaa.fitWorst
open Go.RowKit

theorem parts_grown {w w' : World} {A : Option Addr} {n r : Nat} {l : List Prt} (h : PartsH w A n l) (hb : w.grownBy w' (some r)) (hr : ∀ g, A = some ⟨g, 0, none⟩ → 0 < n → g ≠ r) : PartsH w' A n l :=
  ⟨h.1, fun hn => by
    obtain ⟨g, e, hg, hc⟩ := h.2 hn
    have hk := hb.block g hg (by have := hr g e hn; simpa using this)
    exact ⟨g, e, Nat.lt_of_lt_of_le hg hb.size, fun k p hp => by
      obtain ⟨a, b, c⟩ := hc k p hp
      exact ⟨(World.cell?_of_block (a := ⟨g, k * 3, none⟩) hk).trans a, (World.cell?_of_block (a := ⟨g, k * 3 + 1, none⟩) hk).trans b, (World.cell?_of_block (a := ⟨g, k * 3 + 2, none⟩) hk).trans c⟩⟩⟩
theorem parts_ne {w : World} {A : Option Addr} {n N : Nat} {l : List Prt} {x y : Value} (h : PartsH w A n l) (k : Blk w N 26 #[x, y]) : ∀ g, A = some ⟨g, 0, none⟩ → 0 < n → g ≠ N := by
  rintro g e hn rfl
  obtain ⟨g', p, e', hg, hp, _, _, hc⟩ := h.at_ hn
  rw [e] at e'
  cases e'
  have := k.cell (0 * 3 + 2)
  rw [this] at hc
  cases hc
theorem parts_set {w : World} {A : Option Addr} {n N : Nat} {l : List Prt} {x y : Value} (h : PartsH w A n l) (k : Blk w N 26 #[x, y]) (i : Nat) (v : Value) : PartsH (w.setCell ⟨N, i, none⟩ v) A n l :=
  parts_grown h (only_setCell (World.grownBy.refl _ _) (p := ⟨N, i, none⟩) (.inl rfl) v) (parts_ne h k)
set_option maxRecDepth 100000 in
set_option maxHeartbeats 16000000 in
theorem walk (A : Option Addr) (n c : Nat) (lo hi : Int) (wide : Bool) (l : List Prt) (w : World) (hsA : PartsA w A n l) (hcA : n ≤ c) (hnA : A = none → c = 0) :
    Calls Try.prog 11 #[.slice A n c, .agg #[.int .i64 lo, .int .i64 hi], .bool wide] w fun e w' => e = .returned (.bool true) ∧ Below w.heap.size w w' := by
  have hb0 : Below w.heap.size w (w.alloc (.cells #[.int .i64 lo, .int .i64 hi] 26)) := (Below.refl _ _).alloc (Nat.le_refl _) _
  have kN := Blk.new w 26 #[.int .i64 lo, .int .i64 hi]
  have HP := Lib.hid (parts_any A n c l _ (hsA.later hb0) hcA hnA)
  have h9 : (l.take 9).length ≤ 9 := by rw [List.length_take]; omega
  clear hsA hcA hnA
  go_enter Try.func11, Try.ntmps11
  go_upto_region 1 with fail
  revert kN HP hb0
  generalize w.alloc (.cells #[.int .i64 lo, .int .i64 hi] 26) = w1
  intro hb kN HP
  go_wp2_with fail
  refine HP.out.mono ?_
  rintro e w2 ⟨A2, c2, rfl, rL, hb2⟩
  have kN := kN.later hb2
  have hbl := hb.trans (hb2.mono hb.size)
  generalize l.take 9 = L9 at *
  clear HP hb hb2
  have hbf := Below.refl w2.heap.size w2
  cases hr : rightB L9 with
  | false =>
    have HS := Lib.hid (stack_no A2 L9.length c2 L9 w2 rL (by omega) hr)
    clear hr rL
    have ckN := kN.cell
    have lkN := kN.lt
    go_wp2_with fail
    refine (HS.out).mono ?_
    rintro e wc1 ⟨rfl, hbc⟩
    replace kN := kN.later hbc
    replace hbf := hbf.trans (hbc.mono hbf.size)
    replace hbl := hbl.trans (hbc.mono hbl.size)
    clear hbc
    clear ckN lkN
    have hne : wc1.heap.size ≠ w.heap.size := by have := kN.lt; omega
    have kS := Blk.new wc1 26 #[.int .i64 0, .int .i64 0]
    have hbn : Below wc1.heap.size wc1 (wc1.alloc (.cells #[.int .i64 0, .int .i64 0] 26)) := (Below.refl _ _).alloc (Nat.le_refl _) _
    replace kN := kN.later hbn
    replace hbl := hbl.trans (hbn.mono hbl.size)
    replace hbf := hbf.trans (hbn.mono hbf.size)
    clear hbn HS
    go_upto_region 3 with fail
    revert hne kS kN hbl hbf
    generalize wc1.alloc (.cells #[.int .i64 0, .int .i64 0] 26) = w4
    generalize wc1.heap.size = SB
    intro hne kS kN hbl hbf
    go_wp2_with fail
    refine (lives_any _).mono ?_
    rintro e wc2 ⟨rfl, hbc⟩
    replace hbl := hbl.trans (hbc.mono hbl.size)
    clear hbc
    go_wp2_with fail
    go_ret
    exact ⟨rfl, hbl⟩
  | true =>
    obtain ⟨hok, h1, h8⟩ := rightB_iff.1 hr
    have HS := Lib.hid (stack_yes A2 L9.length c2 L9 w2 rL hr)
    have HR : Hid (∀ w', Below w2.heap.size w2 w' → Calls Try.prog 29 #[.slice A2 L9.length c2] w' fun e w'' => e = .returned (.bool true) ∧ Below w'.heap.size w' w'') := fun w' h => by have := rStack_any A2 L9.length c2 L9 w' (rL.later h) (by omega); rw [hr] at this; exact this
    have HQ : Hid (∀ lo hi w', Calls Try.prog 30 #[.agg #[.int .i64 lo, .int .i64 hi], .int .i64 1000000] w' fun e w'' => e = .returned (.bool (spanB lo hi)) ∧ Below w'.heap.size w' w'') := fun lo hi w' => by have := rSpan_any lo hi 1000000 w' (by omega) (by omega); rw [span_same] at this; exact this
    have HL2 : Hid (∀ w', Below w2.heap.size w2 w' → PartsH w' A2 L9.length L9) := fun w' h => rL.later h
    obtain ⟨L, hL⟩ : ∃ L, L = lowL L9 := ⟨_, rfl⟩
    obtain ⟨H, hH⟩ : ∃ H, H = highL L9 := ⟨_, rfl⟩
    rw [← hL, ← hH] at HS
    have HE := Lib.hid (And.intro hL (And.intro hH (And.intro hok hr)))
    clear hr rL hok h1 hL hH
    have ckN := kN.cell
    have lkN := kN.lt
    go_wp2_with fail
    refine (HS.out).mono ?_
    rintro e wc3 ⟨rfl, hbc⟩
    replace kN := kN.later hbc
    replace hbf := hbf.trans (hbc.mono hbf.size)
    replace hbl := hbl.trans (hbc.mono hbl.size)
    clear hbc
    clear ckN lkN
    have hne : wc3.heap.size ≠ w.heap.size := by have := kN.lt; omega
    have kS := Blk.new wc3 26 #[.int .i64 L, .int .i64 H]
    have hbn : Below wc3.heap.size wc3 (wc3.alloc (.cells #[.int .i64 L, .int .i64 H] 26)) := (Below.refl _ _).alloc (Nat.le_refl _) _
    replace kN := kN.later hbn
    replace hbl := hbl.trans (hbn.mono hbl.size)
    replace hbf := hbf.trans (hbn.mono hbf.size)
    clear hbn HS
    go_upto_region 3 with fail
    revert hne kS kN hbl hbf
    generalize wc3.alloc (.cells #[.int .i64 L, .int .i64 H] 26) = w4
    generalize wc3.heap.size = SB
    intro hne kS kN hbl hbf
    have ckN := kN.cell
    have lkN := kN.lt
    have ckS := kS.cell
    have lkS := kS.lt
    go_wp2_with fail
    refine (HR.out _ hbf).mono ?_
    rintro e wc4 ⟨rfl, hbc⟩
    replace kN := kN.later hbc
    replace kS := kS.later hbc
    replace hbf := hbf.trans (hbc.mono hbf.size)
    replace hbl := hbl.trans (hbc.mono hbl.size)
    clear hbc
    clear ckN lkN ckS lkS
    have rL := HL2.out _ hbf
    clear HR HL2 hbf
    go_upto_region 5 with fail
    go_cut [43] from 39 to 43 (fun u43 wx => ∃ bW : Bool, u43 = .bool bW ∧ Hid (bW = true → spanB lo hi = true) ∧ Blk wx w.heap.size 26 #[.int .i64 lo, .int .i64 hi] ∧ Blk wx SB 26 #[.int .i64 L, .int .i64 H] ∧ PartsH wx A2 L9.length L9 ∧ Below w.heap.size w wx)
    case first =>
      cases wide
      · go_wp2_with fail
        go_meet
        case rel => exact ⟨false, rfl, fun h => (by cases h), kN, kS, rL, hbl⟩
      · have HQ1 := Lib.hid (HQ.out lo hi)
        have HSP : Hid (spanB lo hi = true → spanB lo hi = true) := fun h => h
        generalize hq : spanB lo hi = bW at HQ1
        rw [hq] at HSP
        have ckN := kN.cell
        have lkN := kN.lt
        have ckS := kS.cell
        have lkS := kS.lt
        go_wp2_with fail
        refine (HQ1.out _).mono ?_
        rintro e wc5 ⟨rfl, hbc⟩
        replace kN := kN.later hbc
        replace kS := kS.later hbc
        replace hbl := hbl.trans (hbc.mono hbl.size)
        replace rL := rL.later hbc
        clear hbc
        clear ckN lkN ckS lkS
        go_wp2_with fail
        go_meet
        case rel => exact ⟨bW, rfl, by rw [hq]; exact fun h => h, kN, kS, rL, hbl⟩
    case rest =>
      obtain ⟨bW, rfl, hW, kN, kS, rL, hbl⟩ := hcut
      go_upto_if 43 with (fail)
      go_cut [44] from 43 to 56 (fun _ wy => ∃ lo2 hi2 : Int, Blk wy w.heap.size 26 #[.int .i64 lo2, .int .i64 hi2] ∧ Blk wy SB 26 #[.int .i64 L, .int .i64 H] ∧ PartsH wy A2 L9.length L9 ∧ Below w.heap.size w wy)
      case first =>
        cases bW with
        | false =>
          go_wp2_with fail
          go_meet
          case rel => exact ⟨lo, hi, kN, kS, rL, hbl⟩
        | true =>
          obtain ⟨s1, s2, s3⟩ := spanB_iff.1 (hW.out rfl)
          obtain ⟨m1, e1⟩ : ∃ m, min lo L = m := ⟨_, rfl⟩
          obtain ⟨m2, e2⟩ : ∃ m, max hi H = m := ⟨_, rfl⟩
          obtain ⟨lo2, e3⟩ : ∃ m, max (-1000000) m1 = m := ⟨_, rfl⟩
          obtain ⟨hi2, e4⟩ : ∃ m, min 1000000 m2 = m := ⟨_, rfl⟩
          have kN2 := (kN.set_ 0 (.int .i64 lo2)).set_ 1 (.int .i64 hi2)
          have kS2 := (kS.far (p := ⟨w.heap.size, 0, none⟩) (by simpa using hne) (.int .i64 lo2)).far (p := ⟨w.heap.size, 1, none⟩) (by simpa using hne) (.int .i64 hi2)
          have rL2 := parts_set (parts_set rL kN 0 (.int .i64 lo2)) (kN.set_ 0 (.int .i64 lo2)) 1 (.int .i64 hi2)
          have hb2 := (hbl.setCell (p := ⟨w.heap.size, 0, none⟩) (Nat.le_refl _) (.int .i64 lo2)).setCell (p := ⟨w.heap.size, 1, none⟩) (Nat.le_refl _) (.int .i64 hi2)
          have fkN := kN.frozen
          have HFIN := Lib.hid (And.intro kN2 (And.intro kS2 (And.intro rL2 hb2)))
          clear kN2 kS2 rL2 hb2 rL hbl
          have ckN := kN.cell
          have lkN := kN.lt
          have ckS := kS.cell
          have lkS := kS.lt
          go_wp2_with fail
          go_meet
          case rel => exact ⟨lo2, hi2, HFIN.out.1, HFIN.out.2.1, HFIN.out.2.2.1, HFIN.out.2.2.2⟩
      case rest =>
        obtain ⟨lo2, hi2, kN, kS, rL, hbl⟩ := hcut
        obtain ⟨hL, hH, hok, hr⟩ := HE.out
        have hbf := Below.refl wc.heap.size wc
        have HQ1 := Lib.hid (HQ.out lo2 hi2)
        clear HQ HE
        cases hsp : spanB lo2 hi2 with
        | false =>
          have hr2 : (rightB L9 && spanB lo2 hi2) = false := by rw [hsp, Bool.and_false]
          have HA : Hid (∀ w', Below wc.heap.size wc w' → _) := fun w' h => always_no A2 L9.length c2 L9 lo2 hi2 w' (rL.later h) (by omega) hr2
          have HV : Hid (∀ w', Below wc.heap.size wc w' → _) := fun w' h => ever_no A2 L9.length c2 L9 lo2 hi2 w' (rL.later h) (by omega) hr2
          have HY : Hid (∀ w', Below wc.heap.size wc w' → _) := fun w' h => yield_no A2 L9.length c2 L9 lo2 hi2 w' (rL.later h) (by omega) hr2
          have HC : Hid (∀ w', Below wc.heap.size wc w' → _) := fun w' h => count_no A2 L9.length c2 L9 lo2 hi2 w' (rL.later h) (by omega) hr2
          rw [hsp] at HQ1
          clear hsp hr2 rL hr hok hL hH kS
          have ckN := kN.cell
          have lkN := kN.lt
          go_wp2_with fail
          refine (HA.out _ hbf).mono ?_
          rintro e wc6 ⟨rfl, hbc⟩
          replace kN := kN.later hbc
          replace hbf := hbf.trans (hbc.mono hbf.size)
          replace hbl := hbl.trans (hbc.mono hbl.size)
          clear hbc
          clear ckN lkN
          have ckN := kN.cell
          have lkN := kN.lt
          go_wp2_with fail
          refine (HV.out _ hbf).mono ?_
          rintro e wc7 ⟨rfl, hbc⟩
          replace kN := kN.later hbc
          replace hbf := hbf.trans (hbc.mono hbf.size)
          replace hbl := hbl.trans (hbc.mono hbl.size)
          clear hbc
          clear ckN lkN
          have ckN := kN.cell
          have lkN := kN.lt
          go_wp2_with fail
          refine (HY.out _ hbf).mono ?_
          rintro e wc8 ⟨rfl, hbc⟩
          replace kN := kN.later hbc
          replace hbf := hbf.trans (hbc.mono hbf.size)
          replace hbl := hbl.trans (hbc.mono hbl.size)
          clear hbc
          clear ckN lkN
          have kY := Blk.new wc8 31 #[.int .i64 0, .int .i64 0]
          have hbn : Below wc8.heap.size wc8 (wc8.alloc (.cells #[.int .i64 0, .int .i64 0] 31)) := (Below.refl _ _).alloc (Nat.le_refl _) _
          replace kN := kN.later hbn
          replace hbl := hbl.trans (hbn.mono hbl.size)
          replace hbf := hbf.trans (hbn.mono hbf.size)
          clear hbn HY
          go_upto_region 10 with fail
          revert kY kN hbl hbf
          generalize wc8.alloc (.cells #[.int .i64 0, .int .i64 0] 31) = wy
          generalize wc8.heap.size = YB
          intro kY kN hbl hbf
          have ckN := kN.cell
          have lkN := kN.lt
          go_wp2_with fail
          refine (HC.out _ hbf).mono ?_
          rintro e wc9 ⟨rfl, hbc⟩
          replace kN := kN.later hbc
          replace hbf := hbf.trans (hbc.mono hbf.size)
          replace hbl := hbl.trans (hbc.mono hbl.size)
          clear hbc
          clear ckN lkN
          have ckN := kN.cell
          have lkN := kN.lt
          go_wp2_with fail
          refine (HQ1.out _).mono ?_
          rintro e wc10 ⟨rfl, hbc⟩
          replace hbl := hbl.trans (hbc.mono hbl.size)
          clear hbc
          clear ckN lkN
          go_wp2_with fail
          refine (lives_any _).mono ?_
          rintro e wc11 ⟨rfl, hbc⟩
          replace hbl := hbl.trans (hbc.mono hbl.size)
          clear hbc
          go_wp2_with fail
          go_ret
          exact ⟨rfl, hbl⟩
        | true =>
          have HA : Hid (∀ w', Below wc.heap.size wc w' → _) := fun w' h => always_yes A2 L9.length c2 L9 lo2 hi2 w' (rL.later h) hr hsp
          have HV : Hid (∀ w', Below wc.heap.size wc w' → _) := fun w' h => ever_yes A2 L9.length c2 L9 lo2 hi2 w' (rL.later h) hr hsp
          have HY : Hid (∀ w', Below wc.heap.size wc w' → _) := fun w' h => yield_yes A2 L9.length c2 L9 lo2 hi2 w' (rL.later h) hr hsp
          have HC : Hid (∀ w', Below wc.heap.size wc w' → _) := fun w' h => count_yes A2 L9.length c2 L9 lo2 hi2 w' (rL.later h) hr hsp
          obtain ⟨s1, s2, s3⟩ := spanB_iff.1 hsp
          have w1 := worst_all hok lo2 hi2
          have w2 := worst_any hok s2
          have w3 := frac_one (q := goodN lo2 hi2 (gapsL L9)) (gapsL_facts _ hok).2.2.2.2.2.2
          have w4 := (gapsL_facts _ hok).2.2.1
          rw [hsp] at HQ1
          unfold fracV at HY
          rw [← hL, ← hH] at w1 w2 w4 HA HV
          clear hsp rL hr hok hL hH
          generalize goodN lo2 hi2 (gapsL L9) = q at *
          generalize (gapsL L9).length = a at *
          obtain ⟨y1, hy1⟩ : ∃ y, q / q.gcd a = y := ⟨_, rfl⟩
          obtain ⟨y2, hy2⟩ : ∃ y, a / q.gcd a = y := ⟨_, rfl⟩
          rw [hy1, hy2] at w3 HY
          obtain ⟨aB, haB⟩ : ∃ b, ((decide (lo2 ≤ L) && decide (L ≤ hi2)) && (decide (lo2 ≤ H) && decide (H ≤ hi2))) = b := ⟨_, rfl⟩
          obtain ⟨eB, heB⟩ : ∃ b, (decide (L ≤ hi2) && decide (lo2 ≤ H)) = b := ⟨_, rfl⟩
          rw [haB] at HA
          rw [heB] at HV
          have HAB := Lib.hid haB
          have HEB := Lib.hid heB
          have HW := Lib.hid (And.intro w1 (And.intro w2 (And.intro w3 (And.intro w4 s2))))
          clear w1 w2 w3 w4 s1 s2 s3 hy1 hy2 haB heB
          have ckN := kN.cell
          have lkN := kN.lt
          have ckS := kS.cell
          have lkS := kS.lt
          go_wp2_with fail
          refine (HA.out _ hbf).mono ?_
          rintro e wc12 ⟨rfl, hbc⟩
          replace kN := kN.later hbc
          replace kS := kS.later hbc
          replace hbf := hbf.trans (hbc.mono hbf.size)
          replace hbl := hbl.trans (hbc.mono hbl.size)
          clear hbc
          clear ckN lkN ckS lkS
          have ckN := kN.cell
          have lkN := kN.lt
          have ckS := kS.cell
          have lkS := kS.lt
          go_wp2_with fail
          refine (HV.out _ hbf).mono ?_
          rintro e wc13 ⟨rfl, hbc⟩
          replace kN := kN.later hbc
          replace kS := kS.later hbc
          replace hbf := hbf.trans (hbc.mono hbf.size)
          replace hbl := hbl.trans (hbc.mono hbl.size)
          clear hbc
          clear ckN lkN ckS lkS
          have ckN := kN.cell
          have lkN := kN.lt
          go_wp2_with fail
          refine (HY.out _ hbf).mono ?_
          rintro e wc14 ⟨rfl, hbc⟩
          replace kS := kS.later hbc
          replace kN := kN.later hbc
          replace hbf := hbf.trans (hbc.mono hbf.size)
          replace hbl := hbl.trans (hbc.mono hbl.size)
          clear hbc
          clear ckN lkN
          have kY := Blk.new wc14 31 #[.int .i64 (y1 : Int), .int .i64 (y2 : Int)]
          have hbn : Below wc14.heap.size wc14 (wc14.alloc (.cells #[.int .i64 (y1 : Int), .int .i64 (y2 : Int)] 31)) := (Below.refl _ _).alloc (Nat.le_refl _) _
          replace kN := kN.later hbn
          replace kS := kS.later hbn
          replace hbl := hbl.trans (hbn.mono hbl.size)
          replace hbf := hbf.trans (hbn.mono hbf.size)
          clear hbn HY
          go_upto_region 10 with fail
          revert kY kN kS hbl hbf
          generalize wc14.alloc (.cells #[.int .i64 (y1 : Int), .int .i64 (y2 : Int)] 31) = wy
          generalize wc14.heap.size = YB
          intro kY kN kS hbl hbf
          have ckN := kN.cell
          have lkN := kN.lt
          have ckS := kS.cell
          have lkS := kS.lt
          have ckY := kY.cell
          have lkY := kY.lt
          go_wp2_with fail
          refine (HC.out _ hbf).mono ?_
          rintro e wc15 ⟨rfl, hbc⟩
          replace kN := kN.later hbc
          replace kS := kS.later hbc
          replace kY := kY.later hbc
          replace hbf := hbf.trans (hbc.mono hbf.size)
          replace hbl := hbl.trans (hbc.mono hbl.size)
          clear hbc
          clear ckN lkN ckS lkS ckY lkY
          have ckN := kN.cell
          have lkN := kN.lt
          have ckS := kS.cell
          have lkS := kS.lt
          have ckY := kY.cell
          have lkY := kY.lt
          go_wp2_with fail
          refine (HQ1.out _).mono ?_
          rintro e wc16 ⟨rfl, hbc⟩
          replace kN := kN.later hbc
          replace kS := kS.later hbc
          replace kY := kY.later hbc
          replace hbl := hbl.trans (hbc.mono hbl.size)
          clear hbc
          clear ckN lkN ckS lkS ckY lkY
          have ckN := kN.cell
          have lkN := kN.lt
          have ckS := kS.cell
          have lkS := kS.lt
          have ckY := kY.cell
          have lkY := kY.lt
          go_wp2_with fail
          refine (lives_any _).mono ?_
          rintro e wc17 ⟨rfl, hbc⟩
          replace kN := kN.later hbc
          replace kS := kS.later hbc
          replace kY := kY.later hbc
          replace hbl := hbl.trans (hbc.mono hbl.size)
          clear hbc
          clear ckN lkN ckS lkS ckY lkY
          obtain ⟨w1, w2, w3, w4, s2⟩ := HW.out
          by_cases q1 : lo2 ≤ L <;> by_cases q2 : H ≤ hi2 <;> by_cases q3 : lo2 ≤ H <;> by_cases q4 : L ≤ hi2
          all_goals first
            | (exfalso; omega)
            | skip
          all_goals
            (first | have d1 := decide_eq_false q1 | have d1 := decide_eq_true q1)
            (first | have d2 := decide_eq_false q2 | have d2 := decide_eq_true q2)
            (first | have d3 := decide_eq_false q3 | have d3 := decide_eq_true q3)
            (first | have d4 := decide_eq_false q4 | have d4 := decide_eq_true q4)
            have e1 := HAB.out
            have e2 := HEB.out
            rw [d1, d2, d3, d4] at e1
            rw [d3, d4] at e2
            simp at e1 e2
            subst e1 e2
            (first | have d5 : decide (0 < q) = true := decide_eq_true (by omega) | have d5 : decide (0 < q) = false := decide_eq_false (by omega))
            (first
              | have y12 : y1 = 1 ∧ y2 = 1 := w3.2 (w1.2 (by omega))
                obtain ⟨y1e, y2e⟩ := y12
                subst y1e y2e
              | have yn : ¬ (y1 = 1 ∧ y2 = 1) := fun h => absurd (w1.1 (w3.1 h)) (by omega)
                have yz : (((y1 : Int) == 1) && ((y2 : Int) == 1)) = false := by
                  by_cases z : y1 = 1
                  · have z2 : ¬ y2 = 1 := fun z2 => yn ⟨z, z2⟩
                    simp; omega
                  · simp; omega)
            clear HAB HEB HW w1 w2 w3 w4 s2 q1 q2 q3 q4
            have ckN := kN.cell
            have lkN := kN.lt
            have ckS := kS.cell
            have lkS := kS.lt
            have ckY := kY.cell
            have lkY := kY.lt
            go_wp2_with fail
            all_goals
              go_ret
              exact ⟨rfl, hbl⟩
end Go.Proofs.Ytpklcjbdmikbdaa.fitWorst
namespace Go.Proofs.Ytpklcjbdmikbdaa.fitWorst
open Go.ChangeShapes Go.WideShapes Go.ChangeAt Go.RowKit


set_option maxHeartbeats 2000000 in
set_option maxHeartbeats 4000000 in
set_option maxRecDepth 100000 in
theorem lifted (os : Os) (started : os.Started) (H : Type) (enc : TypeId × Value → H) :
    ReturnsInHanded {} Try.checked os 11 .any (Rows.fitWorstSpec.pre6 enc Try.prog Try.f11 Rows.fitWorstRow.domain false) (Rows.fitWorstSpec.post enc Try.prog Try.f11 false true false false) := by
  refine returnsInHanded_of_change (C := Try.checked) Try.own started (by kernel_rfl) Try.func11
    (ChangeSpec.witness6 (enc := enc) (C := Try.checked) false ⟨#[], #[.slice none 0 0, .agg #[.int .i64 0, .int .i64 0], .bool false], []⟩ 8 (by kernel_rfl) (by kernel_rfl) (by kernel_rfl) (by kernel_rfl)) ?_
  intro W base args ds gs before hval0 hW hcnd _
  have hval : ∀ (j : Nat) t v, Try.f11.params[j]? = some t → args[j]? = some v → Value.okWide Try.prog W .any base t v := hval0
  have hW' := hW
  obtain ⟨p, q, hA0, hV, rfl, hfz, hnd⟩ := hW
  have hA : DataW.TrodAll enc Try.prog W 0 (fun _ => true) true Try.f11.params.toList args.toList ds p := hA0
  rw [Try.params11] at hA hval
  obtain ⟨v0, vs0, d0, ds0, p0, q0, hargs, rfl, rfl, h0, r0⟩ := trodAll_cons hA
  obtain ⟨v1, vs1, d1, ds1, p1, q1, rfl, rfl, rfl, h1, r1⟩ := trodAll_cons r0
  obtain ⟨v2, vs2, d2, ds2, p2, q2, rfl, rfl, rfl, h2, r2⟩ := trodAll_cons r1
  obtain ⟨rfl, rfl, rfl⟩ := trodAll_nil r2
  obtain rfl : args = #[v0, v1, v2] := by cases args; simp_all
  obtain ⟨rfl, rfl⟩ := trodVars_none hV
  obtain ⟨A0, n0, c0, l0, rfl, x0, y0, u0⟩ := open_R (hval 0 22 v0 rfl rfl) h0
  obtain ⟨a1, b1, rfl⟩ := open_G (hval 1 26 v1 rfl rfl) h1
  obtain ⟨a2, rfl, rfl, rfl⟩ := open_bool Try.underlying4 (hval 2 4 v2 rfl rfl) h2
  refine (walk A0 n0 c0 a1 b1 a2 l0 W x0 y0 u0).mono fun e W' ⟨he, hb⟩ => ?_
  exact ⟨_, he, law_post rfl (by kernel_rfl) (by kernel_rfl) hW' rfl rfl rfl hb⟩

set_option maxHeartbeats 4000000 in
set_option maxRecDepth 100000 in
theorem facts : joinedFacts Try.prog 11 Try.f11 Rows.fitWorstSpec Rows.fitWorstRow = true := by
  unfold joinedFacts
  repeat' (with_reducible refine and_t ?_ ?_)
  all_goals first
    | with_reducible exact Try.enters
    | (rw [Try.finals]; as_aux_lemma => kernel_rfl)
    | (rw [Try.made]; as_aux_lemma => kernel_rfl)
    | (as_aux_lemma => kernel_rfl)

theorem proved : Rows.FitWorstSaid :=
  OpenClaim.holds_of_wide 11 Try.f11 rfl rfl rfl rfl rfl rfl rfl ⟨rfl, rfl, rfl, rfl, rfl⟩ rfl rfl rfl rfl rfl (by as_aux_lemma => kernel_rfl) Try.func11 facts
    (of_decide_eq_true (by as_aux_lemma => kernel_rfl)) (by unfold Func.isWrapper; rw [if_neg (of_decide_eq_false (by kernel_rfl))]; exact ⟨rfl, rfl⟩)
    (fun os started H enc _ => lifted os started H enc)
#print axioms proved
end Go.Proofs.Ytpklcjbdmikbdaa.fitWorst
