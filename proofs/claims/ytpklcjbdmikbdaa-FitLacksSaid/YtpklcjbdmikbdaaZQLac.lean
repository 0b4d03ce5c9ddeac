/-
Proved: FitLacks: Lacks returns spans that show why not more shafts are paired, and how many are left over, or ErrArg.
  Conditions: none.
-/
import Derived.Test.YtpklcjbdmikbdaaGQ
import Derived.Test.YtpklcjbdmikbdaaGO
import Derived.Deep.LoopGhost
namespace Go.Proofs.Ytpklcjbdmikbdaa
open Go.RowKit

def scells : List (Int × Int) → List Value
  | [] => []
  | p :: l => .int .i64 p.1 :: .int .i64 p.2 :: scells l
theorem scells_len : ∀ l : List (Int × Int), (scells l).length = l.length * 2
  | [] => rfl
  | p :: l => by simp only [scells, List.length_cons, scells_len l]; omega
theorem scells_append : ∀ l m : List (Int × Int), scells (l ++ m) = scells l ++ scells m
  | [], _ => rfl
  | p :: l, m => by simp only [List.cons_append, scells, scells_append l m]
theorem scells_at : ∀ {l : List (Int × Int)} {k : Nat} {p : Int × Int}, l[k]? = some p → (scells l)[k * 2]? = some (.int .i64 p.1) ∧ (scells l)[k * 2 + 1]? = some (.int .i64 p.2)
  | [], _, _, h => by simp at h
  | q :: l, 0, p, h => by
    obtain rfl : q = p := by simpa using h
    exact ⟨rfl, rfl⟩
  | q :: l, k + 1, p, h => by
    have h' : l[k]? = some p := by simpa using h
    obtain ⟨a, b⟩ := scells_at h'
    rw [show (k + 1) * 2 = k * 2 + 2 by omega]
    exact ⟨a, b⟩
theorem scells_of : ∀ {l : List (Int × Int)} {j : Nat} {u : Value}, (scells l)[j]? = some u → ∃ (k : Nat) (p : Int × Int), l[k]? = some p ∧ ((j = k * 2 ∧ u = .int .i64 p.1) ∨ (j = k * 2 + 1 ∧ u = .int .i64 p.2))
  | [], _, _, h => by simp [scells] at h
  | p :: l, 0, u, h => ⟨0, p, rfl, .inl ⟨rfl, by simpa [scells] using h.symm⟩⟩
  | p :: l, 1, u, h => ⟨0, p, rfl, .inr ⟨rfl, by simpa [scells] using h.symm⟩⟩
  | p :: l, j + 2, u, h => by
    obtain ⟨k, q, h1, h2⟩ := scells_of (l := l) (j := j) (u := u) (by simpa [scells] using h)
    refine ⟨k + 1, q, by simpa using h1, ?_⟩
    rcases h2 with ⟨a, b⟩ | ⟨a, b⟩
    · exact .inl ⟨by omega, b⟩
    · exact .inr ⟨by omega, b⟩
theorem scells_one (l : List (Int × Int)) : ∀ u ∈ scells l, u.oneCell' = true := by
  intro u hu
  obtain ⟨j, hj⟩ := List.mem_iff_getElem?.1 hu
  obtain ⟨k, p, _, h⟩ := scells_of hj
  rcases h with ⟨_, rfl⟩ | ⟨_, rfl⟩ <;> rfl
theorem scells_set : ∀ {l : List (Int × Int)} {k : Nat} {p : Int × Int} (v : Int), l[k]? = some p → (scells l).set (k * 2 + 1) (.int .i64 v) = scells (l.set k (p.1, v))
  | [], _, _, _, h => by simp at h
  | q :: l, 0, p, v, h => by
    obtain rfl : q = p := by simpa using h
    rfl
  | q :: l, k + 1, p, v, h => by
    have ih := scells_set (l := l) (k := k) (p := p) v (by simpa using h)
    rw [show (k + 1) * 2 + 1 = k * 2 + 1 + 2 by omega]
    simp only [scells, List.set_cons_succ, ih]
/-- A slice of spans that starts at the head of a block. -/
def SpansH (w : World) (A : Option Addr) (n : Nat) (l : List (Int × Int)) : Prop :=
  l.length = n ∧ (0 < n → ∃ g, A = some ⟨g, 0, none⟩ ∧ g < w.heap.size ∧ ∀ (k : Nat) (p : Int × Int), l[k]? = some p → w.cell? ⟨g, k * 2, none⟩ = some (.int .i64 p.1) ∧ w.cell? ⟨g, k * 2 + 1, none⟩ = some (.int .i64 p.2))
theorem SpansH.later {w w' : World} {A : Option Addr} {n : Nat} {l : List (Int × Int)} (h : SpansH w A n l) (hb : Below w.heap.size w w') : SpansH w' A n l :=
  ⟨h.1, fun hn => by
    obtain ⟨g, e, hg, hc⟩ := h.2 hn
    exact ⟨g, e, Nat.lt_of_lt_of_le hg hb.size, fun k p hk => ⟨(hb.cell (p := ⟨g, k * 2, none⟩) hg).trans (hc k p hk).1, (hb.cell (p := ⟨g, k * 2 + 1, none⟩) hg).trans (hc k p hk).2⟩⟩⟩
theorem SpansH.at_ {w : World} {A : Option Addr} {n : Nat} {l : List (Int × Int)} {k : Nat} (h : SpansH w A n l) (hk : k < n) : ∃ g p, A = some ⟨g, 0, none⟩ ∧ g < w.heap.size ∧ l[k]? = some p ∧ w.cell? ⟨g, k * 2, none⟩ = some (.int .i64 p.1) ∧ w.cell? ⟨g, k * 2 + 1, none⟩ = some (.int .i64 p.2) := by
  obtain ⟨g, e, hg, hc⟩ := h.2 (by omega)
  have hl : k < l.length := by have := h.1; omega
  obtain ⟨a, b⟩ := hc k _ (List.getElem?_eq_getElem hl)
  exact ⟨g, l[k], e, hg, List.getElem?_eq_getElem hl, a, b⟩
theorem own_spans {w : World} {base n c : Nat} {A : Option Addr} {l : List (Int × Int)} (h : w.ownsRow base 26 2 (.slice A n c) n (scells l)) (hn : l.length = n) : SpansH w A n l := by
  refine ⟨hn, fun h0 => ?_⟩
  obtain ⟨g, cap, e, _, hg⟩ := h.form h0
  injection e with e1 e2 e3
  subst e1 e3
  refine ⟨g, rfl, hg, fun k p hk => ?_⟩
  have hkn : k < n := by have := (List.getElem?_eq_some_iff.1 hk).1; omega
  obtain ⟨a, b⟩ := scells_at hk
  exact ⟨(h.cellAt (k * 2) (by omega)).trans a, (h.cellAt (k * 2 + 1) (by omega)).trans b⟩
theorem SpansA.later {w w' : World} {A : Option Addr} {n : Nat} {l : List (Int × Int)} (h : SpansA w A n l) (hb : Below w.heap.size w w') : SpansA w' A n l :=
  ⟨h.1, fun hn => by
    obtain ⟨a, e, ha, hc⟩ := h.2 hn
    exact ⟨a, e, Nat.lt_of_lt_of_le ha hb.size, fun k p hk => ⟨(hb.cell (by rw [add_block]; exact ha)).trans (hc k p hk).1, (hb.cell (p := ⟨(a.add (k * 2)).block, (a.add (k * 2)).off + 1, none⟩) (by rw [add_block]; exact ha)).trans (hc k p hk).2⟩⟩⟩
theorem SpansA.take {w : World} {A : Option Addr} {n m : Nat} {l : List (Int × Int)} (h : SpansA w A n l) (hm : m ≤ n) : SpansA w A m (l.take m) := by
  refine ⟨by rw [List.length_take, h.1]; omega, fun h0 => ?_⟩
  obtain ⟨a, e, ha, hc⟩ := h.2 (by omega)
  refine ⟨a, e, ha, fun k p hk => hc k p ?_⟩
  have hkm : k < m := by have := (List.getElem?_eq_some_iff.1 hk).1; rw [List.length_take] at this; omega
  rwa [List.getElem?_take_of_lt hkm] at hk
theorem spans_news {w : World} {a : Addr} {n : Nat} {l : List (Int × Int)} (h : SpansA w (some a) n l) (hn : 0 < n) : ∀ j u, (scells l)[j]? = some u → w.cell? (a.add j) = some u := by
  obtain ⟨a', e, ha, hc⟩ := h.2 hn
  cases e
  intro j u hj
  obtain ⟨k, p, hk, h3⟩ := scells_of hj
  obtain ⟨c0, c1⟩ := hc k p hk
  rcases h3 with ⟨rfl, rfl⟩ | ⟨rfl, rfl⟩
  · exact c0
  · rw [← add_off _ 1 (by omega)]; exact c1
theorem info26 : (Try.prog.info? 26).map (fun i => (i.zero, i.size, i.bytes)) = some (some (.agg #[.int .i64 0, .int .i64 0]), 2, 16) := by kernel_rfl
theorem app_spans (w : World) {ops : Array Oper} {rest : List Oper} {o : Oper} {a : Act} {Q : Exit → Act → World → Prop} (hgd : o.guard = none) (s x : Operand)
    (ho : o.op = .call { callee := .builtin .append, args := #[s, x], argTypes := #[58, 58] }) (base : Nat) (v : Value) (n : Nat) (xs : List (Int × Int)) (hs : a.eval s = v) (hown : w.ownsRow base 26 2 v n (scells xs))
    (ao : Option Addr) (m c : Nat) (l : List (Int × Int)) (hx : a.eval x = .slice ao m c) (hr : SpansA w ao m l) (hn : n + m ≤ 100000) (hbase : base ≤ w.heap.size)
    (h : ∀ v' w', w'.ownsRow base 26 2 v' (n + m) (scells xs ++ scells l) → w.grownBy w' v.ownBlock → wpList Try.prog ops Q rest (a.put o.dst v') w') : wpList Try.prog ops Q (o :: rest) a w := by
  obtain ⟨i0, hi, hz0, hz1, hz2⟩ := info_parts info26
  rcases Nat.eq_zero_or_pos m with z | z
  · subst z
    have hl : l = [] := List.eq_nil_of_length_eq_zero hr.1
    subst hl
    have hsrc : Src Try.prog i0.size 58 (.slice ao 0 c) 0 [] w := by
      cases ao with
      | none => exact Src.ofNil w Try.underlying58 c
      | some ad => exact Src.ofSlice w Try.underlying58 ad 0 c [] (by simp) (by simp) (by simp)
    obtain ⟨b, sl, sc, hv, hle⟩ : ∃ b sl sc, v = .slice b sl sc ∧ sl ≤ sc := by
      rcases hown.2 with ⟨h1, _⟩ | ⟨g, cap, cur, h1, _, _, h2, _⟩
      · exact ⟨_, _, _, h1, Nat.le_refl _⟩
      · exact ⟨_, _, _, h1, h2⟩
    have hrun := run_append_nothing (P := Try.prog) w 58 58 o.type 26 i0 Try.underlying58 hi b sl sc hle _ hsrc
    rw [← hv] at hrun
    refine wpList_plain hgd fun K hK => ?_
    unfold Oper.wp
    simp [execOp, ho, resolve, invoke, builtin, hs, hx, hrun, Result.andThen]
    exact hK _ _ (h v w (by simpa [scells] using hown) (World.grownBy.refl _ _))
  · obtain ⟨ad, e, _, _⟩ := hr.2 z
    subst e
    refine wpList_append_lies w hgd s x 58 ho base 26 i0 _ 2 16 Try.underlying58 hi hz0 hz1 hz2 rfl (by decide) v n _ hs hown ad m c (scells l) hx (by rw [scells_len, hr.1]) (spans_news hr z) (scells_one _) z (by unfold maxLen; omega) (by omega) hbase _ rfl ?_
    intro g cap w' hown' hgr _ _
    exact h _ _ hown' hgr
/-! ### What spans show -/
/-- A valid span, within twice the greatest size. -/
def okS (p : Int × Int) : Prop := -2000000 ≤ p.1 ∧ p.1 ≤ p.2 ∧ p.2 ≤ 2000000
/-- The first k spans are valid, and each lies behind the one before it. -/
def spOK (l : List (Int × Int)) (k : Nat) : Prop := ∀ i p, i < k → l[i]? = some p → okS p ∧ ∀ r, 0 < i → l[i - 1]? = some r → r.2 < p.1
theorem spOK_zero (l : List (Int × Int)) : spOK l 0 := fun i p h => absurd h (by omega)
theorem spOK_step {l : List (Int × Int)} {k : Nat} {p : Int × Int} (h : spOK l k) (hp : l[k]? = some p) (ho : okS p) (hr : ∀ r, 0 < k → l[k - 1]? = some r → r.2 < p.1) : spOK l (k + 1) := by
  intro i q hi hq
  rcases Nat.lt_or_ge i k with h1 | h1
  · exact h i q h1 hq
  · obtain rfl : i = k := by omega
    rw [hp] at hq
    cases hq
    exact ⟨ho, hr⟩
def spansOK (l : List (Int × Int)) : Prop := spOK l l.length ∧ l.length ≤ 64
open Classical in
noncomputable def spansB (l : List (Int × Int)) : Bool := decide (spansOK l)
def shIn (lo hi : Int) (p : Int × Int) (x : Int) : Bool := (decide (p.1 ≤ x + lo) && decide (x + lo ≤ p.2)) && (decide (p.1 ≤ x + hi) && decide (x + hi ≤ p.2))
def hoIn (p : Int × Int) (y : Int) : Bool := decide (p.1 ≤ y) && decide (y ≤ p.2)
def oneS (s h : List Int) (lo hi : Int) (p : Int × Int) : Int := (s.countP (shIn lo hi p) : Int) - (h.countP (hoIn p) : Int)
def showsV (s h : List Int) (lo hi : Int) (l : List (Int × Int)) : Int := (l.map (oneS s h lo hi)).sum
theorem cp_step {l : List Int} {j : Nat} {x : Int} (p : Int → Bool) (h : l[j]? = some x) : (l.take (j + 1)).countP p = (l.take j).countP p + (if p x then 1 else 0) := by
  rw [List.take_add_one, h, Option.toList_some, List.countP_append]
  simp [List.countP_cons]
theorem shows_step {s h : List Int} {lo hi : Int} {l : List (Int × Int)} {k : Nat} {p : Int × Int} (hk : l[k]? = some p) : showsV s h lo hi (l.take (k + 1)) = showsV s h lo hi (l.take k) + oneS s h lo hi p := by
  unfold showsV
  rw [List.take_add_one, hk]
  simp
theorem one_bound (s h : List Int) (lo hi : Int) (p : Int × Int) : -(h.length : Int) ≤ oneS s h lo hi p ∧ oneS s h lo hi p ≤ (s.length : Int) := by
  unfold oneS
  have a : s.countP (shIn lo hi p) ≤ s.length := List.countP_le_length
  have b : h.countP (hoIn p) ≤ h.length := List.countP_le_length
  omega
theorem shows_bound (s h : List Int) (lo hi : Int) : ∀ l : List (Int × Int), s.length ≤ 64 → h.length ≤ 64 → -(64 * l.length : Int) ≤ showsV s h lo hi l ∧ showsV s h lo hi l ≤ 64 * l.length
  | [], _, _ => by simp [showsV]
  | p :: l, h1, h2 => by
    have ih := shows_bound s h lo hi l h1 h2
    have := one_bound s h lo hi p
    have e : showsV s h lo hi (p :: l) = oneS s h lo hi p + showsV s h lo hi l := by simp [showsV]
    rw [e, List.length_cons]
    omega
end Go.Proofs.Ytpklcjbdmikbdaa
namespace Go.Proofs.Ytpklcjbdmikbdaa
open Go.RowKit

theorem rspan_okS {p : Int × Int} : rspanB p.1 p.2 2000000 = true ↔ okS p := by
  unfold rspanB inB okS
  simp only [Bool.and_eq_true, decide_eq_true_eq]
  omega
theorem spansB_true {l : List (Int × Int)} (h : spansOK l) : spansB l = true := by unfold spansB; simp [h]
theorem spansB_false {l : List (Int × Int)} (h : ¬ spansOK l) : spansB l = false := by unfold spansB; simp [h]
theorem spans_not {l : List (Int × Int)} {k : Nat} {p : Int × Int} (hk : l[k]? = some p) (h : ¬ (okS p ∧ ∀ r, 0 < k → l[k - 1]? = some r → r.2 < p.1)) : ¬ spansOK l := fun ⟨h1, _⟩ => h (h1 k p (List.getElem?_eq_some_iff.1 hk).1 hk)
set_option maxRecDepth 100000 in
set_option maxHeartbeats 8000000 in
theorem rSpans_any (A : Option Addr) (n c : Nat) (l : List (Int × Int)) (w : World) (rA : SpansH w A n l) (hn : n ≤ 1000) : Calls Try.prog 36 #[.slice A n c] w fun e w' => e = .returned (.bool (spansB l)) ∧ Below w.heap.size w w' := by
  have HAn := Lib.hid rA.1
  by_cases h64 : n ≤ 64
  · have d64 : decide ((n : Int) > 64) = false := decide_eq_false (by omega)
    go_enter Try.func36, Try.ntmps36
    go_wp2_with fail
    go_loopw [3] (fun i wr => ∃ k : Nat, k ≤ n ∧ i = .int .i64 k ∧ Hid (spOK l k) ∧ Below w.heap.size w wr) (fun i _ => n - (RowKit.intOf i).toNat)
    case atStart => exact ⟨0, Nat.zero_le _, rfl, spOK_zero l, Below.refl _ _⟩
    case round =>
      obtain ⟨k, hk, rfl, hS, hb⟩ := hrel
      by_cases hlt : k < n
      · obtain ⟨g, p, rfl, hg, hlk, hp1, hp2⟩ := (rA.later hb).at_ hlt
        have hkn : (k : Int) < (n : Int) := by omega
        have hd : decide ((k : Int) < (n : Int)) = true := decide_eq_true hkn
        have HLK := Lib.hid hlk
        clear hlk
        have hxl := later_cell (w := wr)
        cases hsp : rspanB p.1 p.2 2000000 with
        | false =>
          have HM : Hid (∀ w, Calls Try.prog 30 #[.agg #[.int .i64 p.1, .int .i64 p.2], .int .i64 2000000] w fun e w' => e = .returned (.bool false) ∧ Below w.heap.size w w') := fun w => by have := rSpan_any p.1 p.2 2000000 w (by omega) (by omega); rw [hsp] at this; exact this
          have HR : Hid (spansB l = false) := spansB_false (spans_not HLK.out fun h => by rw [rspan_okS.2 h.1] at hsp; cases hsp)
          clear hsp hS
          go_wp2_with fail
          refine wp_region_later (by kernel_rfl) (by kernel_rfl) ?_
          repeat (go_big_quiet_step ((go_at_call 30; exact later_call (HM.out _))))
          refine wpQuiet_nil ?_
          rintro w2 ⟨⟨_, hb2⟩, rfl⟩
          have hb3 := hb.trans (hb2.mono hb.size)
          clear hxl hp1 hp2 hb hb2 HM
          go_wp2_with fail
          go_ret
          exact ⟨by rw [HR.out]; rfl, hb3⟩
        | true =>
          have HM : Hid (∀ w, Calls Try.prog 30 #[.agg #[.int .i64 p.1, .int .i64 p.2], .int .i64 2000000] w fun e w' => e = .returned (.bool true) ∧ Below w.heap.size w w') := fun w => by have := rSpan_any p.1 p.2 2000000 w (by omega) (by omega); rw [hsp] at this; exact this
          have HOK := Lib.hid (rspan_okS.1 hsp)
          clear hsp
          rcases Nat.eq_zero_or_pos k with hk0 | hk0
          · subst hk0
            have HS2 := Lib.hid (spOK_step hS.out HLK.out HOK.out (fun r h => absurd h (by omega)))
            have d0 : decide ((0 : Int) > 0) = false := by decide
            clear hS
            go_wp2_with fail
            refine wp_region_later (by kernel_rfl) (by kernel_rfl) ?_
            repeat (go_big_quiet_step ((go_at_call 30; exact later_call (HM.out _))))
            refine wpQuiet_nil ?_
            rintro w2 ⟨⟨_, hb2⟩, rfl⟩
            have hb3 := hb.trans (hb2.mono hb.size)
            clear hxl hp1 hp2 hb hb2 HM
            go_wp2_with fail
            go_roundw
            case rel => exact ⟨0 + 1, by omega, by go_num, HS2.out, hb3⟩
            case measure => simp [RowKit.intOf]; omega
          · obtain ⟨q, rfl⟩ : ∃ q, k = q + 1 := ⟨k - 1, by omega⟩
            obtain ⟨g', r, e1, _, hlr, hr1, hr2⟩ := (rA.later hb).at_ (show q < n by omega)
            cases e1
            have HLR := Lib.hid hlr
            have d0 : decide (((q + 1 : Nat) : Int) > 0) = true := by rw [decide_eq_true_eq]; omega
            have hq1 : (((q + 1 : Nat) : Int)) - 1 = (q : Int) := by omega
            have hqn : (q : Int) < (n : Int) := by omega
            clear hlr
            by_cases hlr : p.1 ≤ r.2
            · have d1 : decide (p.1 ≤ r.2) = true := decide_eq_true hlr
              have HR : Hid (spansB l = false) := spansB_false (spans_not HLK.out fun h => by
                have := h.2 r (by omega) (by rw [show q + 1 - 1 = q by omega]; exact HLR.out)
                omega)
              clear hS
              go_wp2_with fail
              refine wp_region_later (by kernel_rfl) (by kernel_rfl) ?_
              repeat (go_big_quiet_step ((go_at_call 30; exact later_call (HM.out _))))
              refine wpQuiet_nil ?_
              rintro w2 ⟨⟨_, hb2⟩, rfl⟩
              have hb3 := hb.trans (hb2.mono hb.size)
              clear hxl hp1 hp2 hb hb2 HM hr1 hr2
              go_wp2_with fail
              go_ret
              exact ⟨by rw [HR.out]; rfl, hb3⟩
            · have d1 : decide (p.1 ≤ r.2) = false := decide_eq_false hlr
              have HS2 := Lib.hid (spOK_step hS.out HLK.out HOK.out (fun r' _ h => by
                rw [show q + 1 - 1 = q by omega, HLR.out] at h
                cases h
                omega))
              clear hS
              go_wp2_with fail
              refine wp_region_later (by kernel_rfl) (by kernel_rfl) ?_
              repeat (go_big_quiet_step ((go_at_call 30; exact later_call (HM.out _))))
              refine wpQuiet_nil ?_
              rintro w2 ⟨⟨_, hb2⟩, rfl⟩
              have hb3 := hb.trans (hb2.mono hb.size)
              clear hxl hp1 hp2 hb hb2 HM hr1 hr2
              go_wp2_with fail
              go_roundw
              case rel => exact ⟨q + 1 + 1, by omega, by go_num, HS2.out, hb3⟩
              case measure => simp [RowKit.intOf]; omega
      · obtain rfl : k = n := by omega
        have HR : Hid (spansB l = true) := spansB_true ⟨by rw [HAn.out]; exact hS.out, by rw [HAn.out]; exact h64⟩
        clear hS
        go_wp2_with fail
        go_ret
        exact ⟨by rw [HR.out]; rfl, hb⟩
  · have d64 : decide ((n : Int) > 64) = true := decide_eq_true (by omega)
    have HR : Hid (spansB l = false) := spansB_false fun h => by have := h.2; rw [HAn.out] at this; exact h64 this
    go_enter Try.func36, Try.ntmps36
    go_wp2_with fail
    go_ret
    exact ⟨by rw [HR.out]; rfl, Below.refl _ _⟩
end Go.Proofs.Ytpklcjbdmikbdaa
namespace Go.Proofs.Ytpklcjbdmikbdaa
open Go.RowKit

theorem size_of {l : List Int} (h : Sizes l) {k : Nat} {x : Int} (hx : l[k]? = some x) : -1000000 ≤ x ∧ x ≤ 1000000 := h x (List.mem_of_getElem? hx)
theorem RowH.get_ {w : World} {A : Option Addr} {n k : Nat} {l : List Int} (h : RowH w A n l) (hk : k < n) : ∃ g x, A = some ⟨g, 0, none⟩ ∧ g < w.heap.size ∧ l[k]? = some x ∧ w.cell? ⟨g, k, none⟩ = some (.int .i64 x) := by
  obtain ⟨g, e, hg, hc⟩ := h.2 (by omega)
  have hl : k < l.length := by have := h.1; omega
  exact ⟨g, l[k], e, hg, List.getElem?_eq_getElem hl, hc k _ (List.getElem?_eq_getElem hl)⟩
theorem cp_bound (l : List Int) (j : Nat) (p : Int → Bool) (h : l.length ≤ 64) : (l.take j).countP p ≤ 64 := by
  have a : (l.take j).countP p ≤ (l.take j).length := List.countP_le_length
  have b : (l.take j).length ≤ l.length := by rw [List.length_take]; omega
  omega
set_option maxRecDepth 100000 in
set_option maxHeartbeats 16000000 in
theorem rShows_any (A B S : Option Addr) (n c m d q e0 : Nat) (s t : List Int) (lo hi : Int) (l : List (Int × Int)) (w : World) (rA : RowH w A n s) (rB : RowH w B m t) (rS : SpansH w S q l) (hs : Sizes s) (ht : Sizes t) (hn : n ≤ 64) (hm : m ≤ 64) (hq : q ≤ 64) (hsp : spanB lo hi = true) (hl : spOK l q) :
    Calls Try.prog 37 #[.slice A n c, .slice B m d, .agg #[.int .i64 lo, .int .i64 hi], .slice S q e0] w fun e w' => e = .returned (.int .i64 (showsV s t lo hi l)) ∧ Below w.heap.size w w' := by
  obtain ⟨s1, s2, s3⟩ := spanB_iff.1 hsp
  have HAn := Lib.hid rA.1
  have HBn := Lib.hid rB.1
  have HSn := Lib.hid rS.1
  have HS := Lib.hid hs
  have HT := Lib.hid ht
  have HL := Lib.hid hl
  have kC := Blk.new w 26 #[.int .i64 lo, .int .i64 hi]
  have hb0 : Below w.heap.size w (w.alloc (.cells #[.int .i64 lo, .int .i64 hi] 26)) := (Below.refl _ _).alloc (Nat.le_refl _) _
  have hV0 : Hid ((0 : Int) = showsV s t lo hi (l.take 0)) := rfl
  clear hs ht hl hsp
  go_enter Try.func37, Try.ntmps37
  go_upto_region 1 with fail
  revert kC hb0
  generalize w.alloc (.cells #[.int .i64 lo, .int .i64 hi] 26) = w1
  intro kC hb0
  go_wp2_with fail
  go_loopw [9, 10, 11, 12] (fun v i _ _ wr => ∃ (k : Nat) (V : Int), k ≤ q ∧ i = .int .i64 k ∧ v = .int .i64 V ∧ Hid (V = showsV s t lo hi (l.take k)) ∧ Below w1.heap.size w1 wr) (fun _ i _ _ _ => q - (RowKit.intOf i).toNat)
  case atStart => exact ⟨0, 0, Nat.zero_le _, rfl, rfl, hV0, Below.refl _ _⟩
  case round =>
    clear hV0
    obtain ⟨wo, hwo⟩ : ∃ x, x = wr := ⟨_, rfl⟩
    subst hwo
    obtain ⟨k, V, hk, rfl, rfl, hV, hb1w⟩ := hrel
    have hb := hb1w
    have hbw := hb0.trans (hb.mono hb0.size)
    by_cases hlt : k < q
    · obtain ⟨gs, p, rfl, hgs, hlk, hp1, hp2⟩ := (rS.later hbw).at_ hlt
      have hd : decide ((k : Int) < (q : Int)) = true := decide_eq_true (by omega)
      have hki : (k : Int) < (q : Int) := by omega
      obtain ⟨o1, o2, o3⟩ := (HL.out k p hlt hlk).1
      have HLK := Lib.hid hlk
      have hVb : -4096 ≤ V ∧ V ≤ 4096 := by
        have h1 := shows_bound s t lo hi (l.take k) (by rw [HAn.out]; exact hn) (by rw [HBn.out]; exact hm)
        have h2 : (l.take k).length ≤ 64 := by rw [List.length_take, HSn.out]; omega
        rw [← hV.out] at h1
        omega
      have hVb1 := hVb.1
      have hVb2 := hVb.2
      clear hlk hVb
      go_wp2_with fail
      go_loopw [9, 11] (fun v i wx => ∃ (j : Nat) (U : Int), j ≤ n ∧ i = .int .i64 j ∧ v = .int .i64 U ∧ Hid (U = V + ((s.take j).countP (shIn lo hi p) : Nat)) ∧ Below wo.heap.size wo wx) (fun _ i _ => n - (RowKit.intOf i).toNat)
      case atStart => exact ⟨0, V, Nat.zero_le _, rfl, rfl, by show _ = _; simp, Below.refl _ _⟩
      case round =>
        obtain ⟨wx, hwx⟩ : ∃ x, x = wr := ⟨_, rfl⟩
        subst hwx
        obtain ⟨j, U, hj, rfl, rfl, hU, hb⟩ := hrel
        have hbx := hbw.trans (hb.mono hbw.size)
        by_cases hltj : j < n
        · obtain ⟨ga, x, rfl, hga, hx, hxc⟩ := (rA.later hbx).get_ hltj
          have hdj : decide ((j : Int) < (n : Int)) = true := decide_eq_true (by omega)
          have hji : (j : Int) < (n : Int) := by omega
          obtain ⟨x1, x2⟩ := size_of HS.out hx
          have kC2 := (kC.later hb1w).later hb
          have HX := Lib.hid hx
          have hUb : -8192 ≤ U ∧ U ≤ 8192 := by
            have := cp_bound s j (shIn lo hi p) (by rw [HAn.out]; exact hn)
            have := hU.out
            omega
          have hUb1 := hUb.1
          have hUb2 := hUb.2
          have cC := kC2.cell
          have lC := kC2.lt
          have q1 := hb.cell (p := ⟨gs, k * 2, none⟩) hgs
          have q2 := hb.cell (p := ⟨gs, k * 2 + 1, none⟩) hgs
          rw [hp1] at q1
          rw [hp2] at q2
          have hgs2 : gs < wx.heap.size := Nat.lt_of_lt_of_le hgs hb.size
          have hxl := later_cell (w := wx)
          have HM1 := Lib.hid (fun w => rin_any (x + lo) p.1 p.2 w)
          have HM2 := Lib.hid (fun w => rin_any (x + hi) p.1 p.2 w)
          obtain ⟨b1, hb1⟩ : ∃ b, (decide (p.1 ≤ x + lo) && decide (x + lo ≤ p.2)) = b := ⟨_, rfl⟩
          obtain ⟨b2, hb2⟩ : ∃ b, (decide (p.1 ≤ x + hi) && decide (x + hi ≤ p.2)) = b := ⟨_, rfl⟩
          rw [hb1] at HM1
          rw [hb2] at HM2
          have HN : Hid ((if (b1 && b2) = true then U + 1 else U) = V + ((s.take (j + 1)).countP (shIn lo hi p) : Nat)) := by
            show _ = _
            rw [cp_step _ HX.out, hU.out]
            unfold shIn
            rw [hb1, hb2]
            cases b1 <;> cases b2 <;> simp <;> omega
          clear hb1 hb2 hx hUb kC2 hU
          cases b1
          · have HN := Lib.hid (show U = V + _ from HN.out)
            go_wp2_with fail
            refine wp_region_later (by kernel_rfl) (by kernel_rfl) ?_
            repeat (go_big_quiet_step ((go_at_call 60; first | (with_reducible exact later_same (HM1.out _)) | (with_reducible exact later_same (HM2.out _)))))
            refine wpQuiet_nil ?_
            rintro w2 ⟨⟨_, hb2⟩, rfl⟩
            have hb3 := hb.trans (hb2.mono hb.size)
            clear hxl hxc q1 q2 HM1 HM2 hb hb2
            go_wp2_with fail
            go_roundw
            case rel => exact ⟨j + 1, U, by omega, by go_num, by first | rfl | go_num, HN.out, hb3⟩
            case measure => simp [RowKit.intOf]; omega
          · cases b2
            · have HN := Lib.hid (show U = V + _ from HN.out)
              go_wp2_with fail
              refine wp_region_later (by kernel_rfl) (by kernel_rfl) ?_
              repeat (go_big_quiet_step ((go_at_call 60; first | (with_reducible exact later_same (HM1.out _)) | (with_reducible exact later_same (HM2.out _)))))
              refine wpQuiet_nil ?_
              rintro w2 ⟨⟨_, hb2⟩, rfl⟩
              have hb3 := hb.trans (hb2.mono hb.size)
              clear hxl hxc q1 q2 HM1 HM2 hb hb2
              go_wp2_with fail
              go_roundw
              case rel => exact ⟨j + 1, U, by omega, by go_num, by first | rfl | go_num, HN.out, hb3⟩
              case measure => simp [RowKit.intOf]; omega
            · have HN := Lib.hid (show U + 1 = V + _ from HN.out)
              go_wp2_with fail
              refine wp_region_later (by kernel_rfl) (by kernel_rfl) ?_
              repeat (go_big_quiet_step ((go_at_call 60; first | (with_reducible exact later_same (HM1.out _)) | (with_reducible exact later_same (HM2.out _)))))
              refine wpQuiet_nil ?_
              rintro w2 ⟨⟨_, hb2⟩, rfl⟩
              have hb3 := hb.trans (hb2.mono hb.size)
              clear hxl hxc q1 q2 HM1 HM2 hb hb2
              go_wp2_with fail
              go_roundw
              case rel => exact ⟨j + 1, U + 1, by omega, by go_num, by first | rfl | go_num, HN.out, hb3⟩
              case measure => simp [RowKit.intOf]; omega
        · obtain rfl : j = n := by omega
          have hdj : decide ((j : Int) < (j : Int)) = false := decide_eq_false (by omega)
          have HU2 : Hid (U = V + (s.countP (shIn lo hi p) : Nat)) := by
            have := hU.out
            rwa [← HAn.out, List.take_length] at this
          have hUb : -8192 ≤ U ∧ U ≤ 8192 := by
            have := cp_bound s j (shIn lo hi p) (by rw [HAn.out]; exact hn)
            have := hU.out
            omega
          have hUb1 := hUb.1
          have hUb2 := hUb.2
          clear hU hUb
          have q1 := hb.cell (p := ⟨gs, k * 2, none⟩) hgs
          have q2 := hb.cell (p := ⟨gs, k * 2 + 1, none⟩) hgs
          rw [hp1] at q1
          rw [hp2] at q2
          have hgs2 : gs < wx.heap.size := Nat.lt_of_lt_of_le hgs hb.size
          have hbr := hb
          clear hp1 hp2 hb
          go_wp2_with fail
          go_loopw [9, 12] (fun v i wy => ∃ (r : Nat) (T : Int), r ≤ m ∧ i = .int .i64 r ∧ v = .int .i64 T ∧ Hid (T = U - ((t.take r).countP (hoIn p) : Nat)) ∧ Below wx.heap.size wx wy) (fun _ i _ => m - (RowKit.intOf i).toNat)
          case atStart => exact ⟨0, U, Nat.zero_le _, rfl, rfl, by show _ = _; simp, Below.refl _ _⟩
          case round =>
            obtain ⟨wy, hwy⟩ : ∃ x, x = wr := ⟨_, rfl⟩
            subst hwy
            obtain ⟨r, T, hr, rfl, rfl, hT, hb⟩ := hrel
            have hby := hbx.trans (hb.mono hbx.size)
            by_cases hltr : r < m
            · obtain ⟨gb, y, rfl, hgb, hy, hyc⟩ := (rB.later hby).get_ hltr
              have hdr : decide ((r : Int) < (m : Int)) = true := decide_eq_true (by omega)
              have hri : (r : Int) < (m : Int) := by omega
              have HY := Lib.hid hy
              have hTb : -16384 ≤ T ∧ T ≤ 16384 := by
                have := cp_bound t r (hoIn p) (by rw [HBn.out]; exact hm)
                have := hT.out
                omega
              have hTb1 := hTb.1
              have hTb2 := hTb.2
              have q3 := hb.cell (p := ⟨gs, k * 2, none⟩) hgs2
              have q4 := hb.cell (p := ⟨gs, k * 2 + 1, none⟩) hgs2
              rw [q1] at q3
              rw [q2] at q4
              have hgs3 : gs < wy.heap.size := Nat.lt_of_lt_of_le hgs2 hb.size
              have hxl := later_cell (w := wy)
              have HM1 := Lib.hid (fun w => rin_any y p.1 p.2 w)
              obtain ⟨b1, hb1⟩ : ∃ b, (decide (p.1 ≤ y) && decide (y ≤ p.2)) = b := ⟨_, rfl⟩
              rw [hb1] at HM1
              have HN : Hid ((if b1 = true then T - 1 else T) = U - ((t.take (r + 1)).countP (hoIn p) : Nat)) := by
                show _ = _
                rw [cp_step _ HY.out, hT.out]
                unfold hoIn
                rw [hb1]
                cases b1 <;> simp <;> omega
              clear hb1 hy hTb hT q1 q2
              cases b1
              · have HN := Lib.hid (show T = U - _ from HN.out)
                go_wp2_with fail
                refine wp_region_later (by kernel_rfl) (by kernel_rfl) ?_
                repeat (go_big_quiet_step ((go_at_call 60; exact later_same (HM1.out _))))
                refine wpQuiet_nil ?_
                rintro w2 ⟨⟨_, hb2⟩, rfl⟩
                have hb3 := hb.trans (hb2.mono hb.size)
                clear hxl hyc q3 q4 HM1 hb hb2
                go_wp2_with fail
                go_roundw
                case rel => exact ⟨r + 1, T, by omega, by go_num, by first | rfl | go_num, HN.out, hb3⟩
                case measure => simp [RowKit.intOf]; omega
              · have HN := Lib.hid (show T - 1 = U - _ from HN.out)
                go_wp2_with fail
                refine wp_region_later (by kernel_rfl) (by kernel_rfl) ?_
                repeat (go_big_quiet_step ((go_at_call 60; exact later_same (HM1.out _))))
                refine wpQuiet_nil ?_
                rintro w2 ⟨⟨_, hb2⟩, rfl⟩
                have hb3 := hb.trans (hb2.mono hb.size)
                clear hxl hyc q3 q4 HM1 hb hb2
                go_wp2_with fail
                go_roundw
                case rel => exact ⟨r + 1, T - 1, by omega, by go_num, by first | rfl | go_num, HN.out, hb3⟩
                case measure => simp [RowKit.intOf]; omega
            · obtain rfl : r = m := by omega
              have hdr : decide ((r : Int) < (r : Int)) = false := decide_eq_false (by omega)
              have HN : Hid (T = showsV s t lo hi (l.take (k + 1))) := by
                show _ = _
                rw [shows_step HLK.out, ← hV.out, hT.out, HU2.out, ← HBn.out, List.take_length]
                unfold oneS
                omega
              have hbq := hb1w.trans ((hbr.trans (hb.mono hbr.size)).mono hb1w.size)
              clear hT
              go_wp2_with fail
              go_roundw
              case rel => exact ⟨k + 1, T, by omega, by go_num, rfl, HN, hbq⟩
              case measure => simp [RowKit.intOf]; omega
    · obtain rfl : k = q := by omega
      have hd : decide ((k : Int) < (k : Int)) = false := decide_eq_false (by omega)
      have HF : Hid (V = showsV s t lo hi l) := by
        have := hV.out
        rwa [← HSn.out, List.take_length] at this
      clear hV
      go_wp2_with fail
      go_ret
      exact ⟨by rw [← HF.out]; rfl, hbw⟩
end Go.Proofs.Ytpklcjbdmikbdaa
namespace Go.Proofs.Ytpklcjbdmikbdaa
open Go.RowKit

set_option maxHeartbeats 2000000 in
theorem shows_no (A B S : Option Addr) (c d q e0 : Nat) (s t : List Int) (lo hi : Int) (w : World) (rA : RowH w A s.length s) (rB : RowH w B t.length t) (hn : s.length ≤ 1000) (hm : t.length ≤ 1000) (hv : piecesB s t lo hi = false) :
    Calls Try.prog 35 #[.slice A s.length c, .slice B t.length d, .agg #[.int .i64 lo, .int .i64 hi], .slice S q e0] w fun e w' => e = .returned (.tuple #[.int .i64 0, .int .i64 1]) ∧ Below w.heap.size w w' := by
  have kC := Blk.new w 26 #[.int .i64 lo, .int .i64 hi]
  have hb0 : Below w.heap.size w (w.alloc (.cells #[.int .i64 lo, .int .i64 hi] 26)) := (Below.refl _ _).alloc (Nat.le_refl _) _
  have M := pieces_any A B c d s t lo hi _ (rA.later hb0).rowI (rB.later hb0).rowI (by omega) (by omega)
  rw [hv] at M
  have HM := Lib.hid M
  clear M hv
  go_enter Try.func35, Try.ntmps35
  go_wp2_with fail
  refine HM.out.mono ?_
  rintro e w2 ⟨rfl, hb2⟩
  have hb3 := hb0.trans (hb2.mono hb0.size)
  clear HM hb0 hb2 kC
  go_wp2_with fail
  go_ret2
  exact ⟨rfl, hb3⟩
/-- What Shows returns of valid pieces. -/
def ShowR (s t : List Int) (lo hi : Int) (l : List (Int × Int)) (w : World) (e : Ending) (w' : World) : Prop :=
  (e = .returned (.tuple #[.int .i64 0, .int .i64 2]) ∧ ¬ spansOK l ∧ Below w.heap.size w w') ∨ (e = .returned (.tuple #[.int .i64 (showsV s t lo hi l), .int .i64 0]) ∧ spansOK l ∧ Below w.heap.size w w')
set_option maxRecDepth 100000 in
set_option maxHeartbeats 16000000 in
theorem shows_any (A B S : Option Addr) (c d q e0 : Nat) (s t : List Int) (lo hi : Int) (l : List (Int × Int)) (w : World) (rA : RowH w A s.length s) (rB : RowH w B t.length t) (rS : SpansH w S q l) (hq : q ≤ 1000) (hv : piecesB s t lo hi = true) :
    Calls Try.prog 35 #[.slice A s.length c, .slice B t.length d, .agg #[.int .i64 lo, .int .i64 hi], .slice S q e0] w (ShowR s t lo hi l w) := by
  obtain ⟨hs, ht, hn, hm, hsp⟩ := piecesB_iff.1 hv
  obtain ⟨s1, s2, s3⟩ := spanB_iff.1 hsp
  have HSn := Lib.hid rS.1
  have HS := Lib.hid hs
  have HT := Lib.hid ht
  have kC := Blk.new w 26 #[.int .i64 lo, .int .i64 hi]
  have hb0 : Below w.heap.size w (w.alloc (.cells #[.int .i64 lo, .int .i64 hi] 26)) := (Below.refl _ _).alloc (Nat.le_refl _) _
  have M := pieces_any A B c d s t lo hi _ (rA.later hb0).rowI (rB.later hb0).rowI (by omega) (by omega)
  rw [hv] at M
  obtain ⟨n, hAn⟩ : ∃ n, s.length = n := ⟨_, rfl⟩
  obtain ⟨m, hBn⟩ : ∃ m, t.length = m := ⟨_, rfl⟩
  have HAn := Lib.hid hAn
  have HBn := Lib.hid hBn
  rw [hAn] at rA hn
  rw [hBn] at rB hm
  rw [hAn, hBn] at M ⊢
  have HM := Lib.hid M
  clear hAn hBn
  have hV0 : Hid ((0 : Int) = showsV s t lo hi (l.take 0)) := rfl
  clear hs ht hsp hv M
  go_enter Try.func35, Try.ntmps35
  go_upto_region 1 with fail
  revert kC hb0 HM
  generalize w.alloc (.cells #[.int .i64 lo, .int .i64 hi] 26) = w1
  intro kC hb0 HM
  have cC := kC.cell
  have lC := kC.lt
  go_wp2_with fail
  refine HM.out.mono ?_
  rintro e w3 ⟨rfl, hbp⟩
  replace kC := kC.later hbp
  replace hb0 := hb0.trans (hbp.mono hb0.size)
  clear HM hbp cC lC
  have rA := rA.later hb0
  have rB := rB.later hb0
  have rS := rS.later hb0
  go_wp2_with fail
  go_loopw [10, 11, 26] (fun _ _ i wr => ∃ k : Nat, k ≤ q ∧ i = .int .i64 k ∧ Hid (spOK l k) ∧ Below w3.heap.size w3 wr) (fun _ _ i _ => q - (RowKit.intOf i).toNat)
  case atStart => exact ⟨0, Nat.zero_le _, rfl, spOK_zero l, Below.refl _ _⟩
  case round =>
    obtain ⟨wo, hwo⟩ : ∃ x, x = wr := ⟨_, rfl⟩
    subst hwo
    obtain ⟨k, hk, rfl, hO, hb⟩ := hrel
    by_cases hlt : k < q
    · obtain ⟨g, p, rfl, hg, hlk, hp1, hp2⟩ := (rS.later hb).at_ hlt
      have hkn : (k : Int) < (q : Int) := by omega
      have hd : decide ((k : Int) < (q : Int)) = true := decide_eq_true hkn
      have HLK := Lib.hid hlk
      have kS := Blk.new wo 26 #[.int .i64 p.1, .int .i64 p.2]
      have hbn : Below wo.heap.size wo (wo.alloc (.cells #[.int .i64 p.1, .int .i64 p.2] 26)) := (Below.refl _ _).alloc (Nat.le_refl _) _
      have rS2 := (rS.later hb).later hbn
      have hbk := hb.trans (hbn.mono hb.size)
      clear hlk kC hV0 hbn
      go_upto_region 6 with fail
      revert kS rS2 hbk
      generalize wo.alloc (.cells #[.int .i64 p.1, .int .i64 p.2] 26) = wk
      generalize wo.heap.size = SB
      clear hp1 hp2 hb hg
      intro kS rS2 hbk
      have hb := hb0.trans (hbk.mono hb0.size)
      have hp1 := hb
      have hp2 := hb
      have cS := kS.cell
      have lS := kS.lt
      have hxl := later_cell (w := wk)
      have HM1 := Lib.hid (fun w => within_any p.1 2000000 w (by omega) (by omega))
      have HM2 := Lib.hid (fun w => within_any p.2 2000000 w (by omega) (by omega))
      obtain ⟨b1, hb1⟩ : ∃ b, (decide (-2000000 ≤ p.1) && decide (p.1 ≤ 2000000)) = b := ⟨_, rfl⟩
      obtain ⟨b2, hb2⟩ : ∃ b, (decide (-2000000 ≤ p.2) && decide (p.2 ≤ 2000000)) = b := ⟨_, rfl⟩
      rw [hb1] at HM1
      rw [hb2] at HM2
      have HO : Hid (okS p ↔ (b1 = true ∧ b2 = true ∧ p.1 ≤ p.2)) := by
        show _ ↔ _
        rw [← hb1, ← hb2]
        unfold okS
        simp only [Bool.and_eq_true, decide_eq_true_eq]
        omega
      clear hb1 hb2
      cases b1 with
      | false =>
        have HR : Hid (¬ spansOK l) := spans_not HLK.out fun h => by have := (HO.out.1 h.1).1; cases this
        clear hO HO rS2
        go_wp2_with fail
        refine wp_region_later (by kernel_rfl) (by kernel_rfl) ?_
        repeat (go_big_quiet_step ((go_at_call 64; first | (with_reducible exact later_same (HM1.out _)) | (with_reducible exact later_same (HM2.out _)))))
        refine wpQuiet_nil ?_
        rintro w2 ⟨⟨_, hb2⟩, rfl⟩
        have hb3 := hb.trans (hb2.mono hb.size)
        clear hxl cS lS hp1 hp2 hb hb2 HM1 HM2
        go_wp2_with fail
        go_ret2
        exact .inl ⟨rfl, HR.out, hb3⟩
      | true =>
        cases b2 with
        | false =>
          have HR : Hid (¬ spansOK l) := spans_not HLK.out fun h => by have := (HO.out.1 h.1).2.1; cases this
          clear hO HO rS2
          go_wp2_with fail
          refine wp_region_later (by kernel_rfl) (by kernel_rfl) ?_
          repeat (go_big_quiet_step ((go_at_call 64; first | (with_reducible exact later_same (HM1.out _)) | (with_reducible exact later_same (HM2.out _)))))
          refine wpQuiet_nil ?_
          rintro w2 ⟨⟨_, hb2⟩, rfl⟩
          have hb3 := hb.trans (hb2.mono hb.size)
          clear hxl cS lS hp1 hp2 hb hb2 HM1 HM2
          go_wp2_with fail
          go_ret2
          exact .inl ⟨rfl, HR.out, hb3⟩
        | true =>
          by_cases hle : p.1 ≤ p.2
          · have d2 : decide (p.1 > p.2) = false := decide_eq_false (by omega)
            have HOK : Hid (okS p) := HO.out.2 ⟨rfl, rfl, hle⟩
            rcases Nat.eq_zero_or_pos k with hk0 | hk0
            · subst hk0
              have HS2 := Lib.hid (spOK_step hO.out HLK.out HOK.out (fun r h => absurd h (by omega)))
              have d0 : decide ((0 : Int) > 0) = false := by decide
              clear hO HO rS2
              go_wp2_with fail
              refine wp_region_later (by kernel_rfl) (by kernel_rfl) ?_
              repeat (go_big_quiet_step ((go_at_call 64; first | (with_reducible exact later_same (HM1.out _)) | (with_reducible exact later_same (HM2.out _)))))
              refine wpQuiet_nil ?_
              rintro w2 ⟨⟨_, hb2⟩, rfl⟩
              have hb2x := hb2
              clear hxl cS lS hp1 hp2 hb hb2 HM1 HM2
              go_wp2_with fail
              go_roundw
              case rel => exact ⟨0 + 1, by omega, by go_num, HS2.out, hbk.trans (hb2x.mono hbk.size)⟩
              case measure => simp [RowKit.intOf]; omega
            · obtain ⟨q0, rfl⟩ : ∃ q0, k = q0 + 1 := ⟨k - 1, by omega⟩
              obtain ⟨g', r, e1, _, hlr, hr1, hr2⟩ := rS2.at_ (show q0 < q by omega)
              cases e1
              have HLR := Lib.hid hlr
              have d0 : decide (((q0 + 1 : Nat) : Int) > 0) = true := by rw [decide_eq_true_eq]; omega
              have hq1 : (((q0 + 1 : Nat) : Int)) - 1 = (q0 : Int) := by omega
              have hqn : (q0 : Int) < (q : Int) := by omega
              have hgx : g < wk.heap.size := by assumption
              clear hlr
              by_cases hlr : p.1 ≤ r.2
              · have d1 : decide (p.1 ≤ r.2) = true := decide_eq_true hlr
                have HR : Hid (¬ spansOK l) := spans_not HLK.out fun h => by
                  have := h.2 r (by omega) (by rw [show q0 + 1 - 1 = q0 by omega]; exact HLR.out)
                  omega
                clear hO HO rS2
                go_wp2_with fail
                refine wp_region_later (by kernel_rfl) (by kernel_rfl) ?_
                repeat (go_big_quiet_step ((go_at_call 64; first | (with_reducible exact later_same (HM1.out _)) | (with_reducible exact later_same (HM2.out _)))))
                refine wpQuiet_nil ?_
                rintro w2 ⟨⟨_, hb2⟩, rfl⟩
                have hb3 := hb.trans (hb2.mono hb.size)
                clear hxl cS lS hp1 hp2 hb hb2 HM1 HM2 hr1 hr2
                go_wp2_with fail
                go_ret2
                exact .inl ⟨rfl, HR.out, hb3⟩
              · have d1 : decide (p.1 ≤ r.2) = false := decide_eq_false hlr
                have HS2 := Lib.hid (spOK_step hO.out HLK.out HOK.out (fun r' _ h => by
                  rw [show q0 + 1 - 1 = q0 by omega, HLR.out] at h
                  cases h
                  omega))
                clear hO HO rS2
                go_wp2_with fail
                refine wp_region_later (by kernel_rfl) (by kernel_rfl) ?_
                repeat (go_big_quiet_step ((go_at_call 64; first | (with_reducible exact later_same (HM1.out _)) | (with_reducible exact later_same (HM2.out _)))))
                refine wpQuiet_nil ?_
                rintro w2 ⟨⟨_, hb2⟩, rfl⟩
                have hb2x := hb2
                clear hxl cS lS hp1 hp2 hb hb2 HM1 HM2 hr1 hr2
                go_wp2_with fail
                go_roundw
                case rel => exact ⟨q0 + 1 + 1, by omega, by go_num, HS2.out, hbk.trans (hb2x.mono hbk.size)⟩
                case measure => simp [RowKit.intOf]; omega
          · have d2 : decide (p.1 > p.2) = true := decide_eq_true (by omega)
            have HR : Hid (¬ spansOK l) := spans_not HLK.out fun h => hle (HO.out.1 h.1).2.2
            clear hO HO rS2
            go_wp2_with fail
            refine wp_region_later (by kernel_rfl) (by kernel_rfl) ?_
            repeat (go_big_quiet_step ((go_at_call 64; first | (with_reducible exact later_same (HM1.out _)) | (with_reducible exact later_same (HM2.out _)))))
            refine wpQuiet_nil ?_
            rintro w2 ⟨⟨_, hb2⟩, rfl⟩
            have hb3 := hb.trans (hb2.mono hb.size)
            clear hxl cS lS hp1 hp2 hb hb2 HM1 HM2
            go_wp2_with fail
            go_ret2
            exact .inl ⟨rfl, HR.out, hb3⟩
    · obtain rfl : k = q := by omega
      have hd : decide ((k : Int) < (k : Int)) = false := decide_eq_false (by omega)
      have hb00 := hb0.trans (hb.mono hb0.size)
      by_cases h64 : k ≤ 64
      · have d64 : decide ((k : Int) > 64) = false := decide_eq_false (by omega)
        have HOK : Hid (spansOK l) := ⟨by rw [HSn.out]; exact hO.out, by rw [HSn.out]; exact h64⟩
        have HL := hO
        replace kC := kC.later hb
        replace rA := rA.later hb
        replace rB := rB.later hb
        replace rS := rS.later hb
        clear hO hb0 hb
        go_wp2_with fail
        go_loopw [12, 14, 16, 18, 69] (fun v _ _ _ i wr => ∃ (j : Nat) (V : Int), j ≤ k ∧ i = .int .i64 j ∧ v = .int .i64 V ∧ Hid (V = showsV s t lo hi (l.take j)) ∧ Below wo.heap.size wo wr) (fun _ _ _ _ i _ => k - (RowKit.intOf i).toNat)
        case atStart => exact ⟨0, 0, Nat.zero_le _, rfl, rfl, hV0, Below.refl _ _⟩
        case round =>
          clear hV0
          obtain ⟨wa, hwa⟩ : ∃ x, x = wr := ⟨_, rfl⟩
          subst hwa
          obtain ⟨j, V, hj, rfl, rfl, hV, hb⟩ := hrel
          by_cases hltj : j < k
          · obtain ⟨gs, p, rfl, hgs, hlk, hp1, hp2⟩ := (rS.later hb).at_ hltj
            have hdj : decide ((j : Int) < (k : Int)) = true := decide_eq_true (by omega)
            have hji : (j : Int) < (k : Int) := by omega
            obtain ⟨o1, o2, o3⟩ := (HL.out j p hltj hlk).1
            have HLK := Lib.hid hlk
            have hVb : -4096 ≤ V ∧ V ≤ 4096 := by
              have h1 := shows_bound s t lo hi (l.take j) (by rw [HAn.out]; exact hn) (by rw [HBn.out]; exact hm)
              have h2 : (l.take j).length ≤ 64 := by rw [List.length_take, HSn.out]; omega
              rw [← hV.out] at h1
              omega
            have hVb1 := hVb.1
            have hVb2 := hVb.2
            have kS := Blk.new wa 26 #[.int .i64 p.1, .int .i64 p.2]
            have hbn : Below wa.heap.size wa (wa.alloc (.cells #[.int .i64 p.1, .int .i64 p.2] 26)) := (Below.refl _ _).alloc (Nat.le_refl _) _
            have hbk := hb.trans (hbn.mono hb.size)
            clear hlk hVb hbn
            go_upto_region 15 with fail
            revert kS hbk
            generalize wa.alloc (.cells #[.int .i64 p.1, .int .i64 p.2] 26) = wk
            generalize wa.heap.size = SB
            clear hp1 hp2 hb hgs
            intro kS hbk
            have kCk := kC.later hbk
            have rAk := rA.later hbk
            have rBk := rB.later hbk
            go_wp2_with fail
            go_loopw [12, 16, 75] (fun v _ i wr => ∃ (r : Nat) (U : Int), r ≤ n ∧ i = .int .i64 r ∧ v = .int .i64 U ∧ Hid (U = V + ((s.take r).countP (shIn lo hi p) : Nat)) ∧ Below wk.heap.size wk wr) (fun _ _ i _ => n - (RowKit.intOf i).toNat)
            case atStart => exact ⟨0, V, Nat.zero_le _, rfl, rfl, by show _ = _; simp, Below.refl _ _⟩
            case round =>
              obtain ⟨wx, hwx⟩ : ∃ x, x = wr := ⟨_, rfl⟩
              subst hwx
              obtain ⟨r, U, hr, rfl, rfl, hU, hb⟩ := hrel
              have hUb : -8192 ≤ U ∧ U ≤ 8192 := by
                have := cp_bound s r (shIn lo hi p) (by rw [HAn.out]; exact hn)
                have := hU.out
                omega
              have hUb1 := hUb.1
              have hUb2 := hUb.2
              clear hUb
              by_cases hltr : r < n
              · obtain ⟨ga, x, rfl, hga, hx, hxc⟩ := (rAk.later hb).get_ hltr
                have hdr : decide ((r : Int) < (n : Int)) = true := decide_eq_true (by omega)
                have hri : (r : Int) < (n : Int) := by omega
                obtain ⟨x1, x2⟩ := size_of HS.out hx
                have HX := Lib.hid hx
                have kC2 := kCk.later hb
                have kS2 := kS.later hb
                have HM1 := Lib.hid (fun w => inS_any (x + lo) p.1 p.2 w)
                have HM2 := Lib.hid (fun w => inS_any (x + hi) p.1 p.2 w)
                obtain ⟨b1, hb1⟩ : ∃ b, (decide (p.1 ≤ x + lo) && decide (x + lo ≤ p.2)) = b := ⟨_, rfl⟩
                obtain ⟨b2, hb2⟩ : ∃ b, (decide (p.1 ≤ x + hi) && decide (x + hi ≤ p.2)) = b := ⟨_, rfl⟩
                rw [hb1] at HM1
                rw [hb2] at HM2
                have HN : Hid ((if (b1 && b2) = true then U + 1 else U) = V + ((s.take (r + 1)).countP (shIn lo hi p) : Nat)) := by
                  show _ = _
                  rw [cp_step _ HX.out, hU.out]
                  unfold shIn
                  rw [hb1, hb2]
                  cases b1 <;> cases b2 <;> simp <;> omega
                clear hb1 hb2 hx hU
                have cC := kC2.cell
                have lC := kC2.lt
                have cS := kS2.cell
                have lS := kS2.lt
                cases b1
                · have HN := Lib.hid (show U = V + _ from HN.out)
                  go_wp2_with fail
                  refine (HM1.out _).mono ?_
                  rintro e w4 ⟨rfl, hbc⟩
                  have hb3 := hb.trans (hbc.mono hb.size)
                  clear HM1 HM2 cC lC cS lS hbc
                  go_wp2_with fail
                  go_roundw
                  case rel => exact ⟨r + 1, U, by omega, by go_num, rfl, HN.out, hb3⟩
                  case measure => simp [RowKit.intOf]; omega
                · cases b2
                  · have HN := Lib.hid (show U = V + _ from HN.out)
                    go_wp2_with fail
                    refine (HM1.out _).mono ?_
                    rintro e w4 ⟨rfl, hbc⟩
                    have hb3 := hb.trans (hbc.mono hb.size)
                    have kC3 := kC2.later hbc
                    have kS3 := kS2.later hbc
                    clear HM1 cC lC cS lS hbc
                    have cC := kC3.cell
                    have lC := kC3.lt
                    have cS := kS3.cell
                    have lS := kS3.lt
                    go_wp2_with fail
                    refine (HM2.out _).mono ?_
                    rintro e w5 ⟨rfl, hbd⟩
                    have hb4 := hb3.trans (hbd.mono hb3.size)
                    clear HM2 cC lC cS lS hbd
                    go_wp2_with fail
                    go_roundw
                    case rel => exact ⟨r + 1, U, by omega, by go_num, rfl, HN.out, hb4⟩
                    case measure => simp [RowKit.intOf]; omega
                  · have HN := Lib.hid (show U + 1 = V + _ from HN.out)
                    go_wp2_with fail
                    refine (HM1.out _).mono ?_
                    rintro e w4 ⟨rfl, hbc⟩
                    have hb3 := hb.trans (hbc.mono hb.size)
                    have kC3 := kC2.later hbc
                    have kS3 := kS2.later hbc
                    clear HM1 cC lC cS lS hbc
                    have cC := kC3.cell
                    have lC := kC3.lt
                    have cS := kS3.cell
                    have lS := kS3.lt
                    go_wp2_with fail
                    refine (HM2.out _).mono ?_
                    rintro e w5 ⟨rfl, hbd⟩
                    have hb4 := hb3.trans (hbd.mono hb3.size)
                    clear HM2 cC lC cS lS hbd
                    go_wp2_with fail
                    go_roundw
                    case rel => exact ⟨r + 1, U + 1, by omega, by go_num, by first | rfl | go_num, HN.out, hb4⟩
                    case measure => simp [RowKit.intOf]; omega
              · obtain rfl : r = n := by omega
                have hdr : decide ((r : Int) < (r : Int)) = false := decide_eq_false (by omega)
                have HU2 : Hid (U = V + (s.countP (shIn lo hi p) : Nat)) := by
                  have := hU.out
                  rwa [← HAn.out, List.take_length] at this
                have kSx := kS.later hb
                have rBx := rBk.later hb
                have hbx := hb
                clear hU hb
                go_wp2_with fail
                go_loopw [12, 18, 98] (fun v _ i wr => ∃ (r' : Nat) (T : Int), r' ≤ m ∧ i = .int .i64 r' ∧ v = .int .i64 T ∧ Hid (T = U - ((t.take r').countP (hoIn p) : Nat)) ∧ Below wx.heap.size wx wr) (fun _ _ i _ => m - (RowKit.intOf i).toNat)
                case atStart => exact ⟨0, U, Nat.zero_le _, rfl, rfl, by show _ = _; simp, Below.refl _ _⟩
                case round =>
                  obtain ⟨wy, hwy⟩ : ∃ x, x = wr := ⟨_, rfl⟩
                  subst hwy
                  obtain ⟨r', T, hr', rfl, rfl, hT, hb⟩ := hrel
                  have hTb : -16384 ≤ T ∧ T ≤ 16384 := by
                    have := cp_bound t r' (hoIn p) (by rw [HBn.out]; exact hm)
                    have := hT.out
                    omega
                  have hTb1 := hTb.1
                  have hTb2 := hTb.2
                  clear hTb
                  by_cases hltq : r' < m
                  · obtain ⟨gb, y, rfl, hgb, hy, hyc⟩ := (rBx.later hb).get_ hltq
                    have hdq : decide ((r' : Int) < (m : Int)) = true := decide_eq_true (by omega)
                    have hqi : (r' : Int) < (m : Int) := by omega
                    have HY := Lib.hid hy
                    have kS3 := kSx.later hb
                    have cS := kS3.cell
                    have lS := kS3.lt
                    have HM1 := Lib.hid (fun w => inS_any y p.1 p.2 w)
                    obtain ⟨b1, hb1⟩ : ∃ b, (decide (p.1 ≤ y) && decide (y ≤ p.2)) = b := ⟨_, rfl⟩
                    rw [hb1] at HM1
                    have HN : Hid ((if b1 = true then T - 1 else T) = U - ((t.take (r' + 1)).countP (hoIn p) : Nat)) := by
                      show _ = _
                      rw [cp_step _ HY.out, hT.out]
                      unfold hoIn
                      rw [hb1]
                      cases b1 <;> simp <;> omega
                    clear hb1 hy hT
                    cases b1
                    · have HN := Lib.hid (show T = U - _ from HN.out)
                      go_wp2_with fail
                      refine (HM1.out _).mono ?_
                      rintro e w4 ⟨rfl, hbc⟩
                      have hb3 := hb.trans (hbc.mono hb.size)
                      clear HM1 cS lS hbc
                      go_wp2_with fail
                      go_roundw
                      case rel => exact ⟨r' + 1, T, by omega, by go_num, rfl, HN.out, hb3⟩
                      case measure => simp [RowKit.intOf]; omega
                    · have HN := Lib.hid (show T - 1 = U - _ from HN.out)
                      go_wp2_with fail
                      refine (HM1.out _).mono ?_
                      rintro e w4 ⟨rfl, hbc⟩
                      have hb3 := hb.trans (hbc.mono hb.size)
                      clear HM1 cS lS hbc
                      go_wp2_with fail
                      go_roundw
                      case rel => exact ⟨r' + 1, T - 1, by omega, by go_num, by first | rfl | go_num, HN.out, hb3⟩
                      case measure => simp [RowKit.intOf]; omega
                  · obtain rfl : r' = m := by omega
                    have hdq : decide ((r' : Int) < (r' : Int)) = false := decide_eq_false (by omega)
                    have HN : Hid (T = showsV s t lo hi (l.take (j + 1))) := by
                      show _ = _
                      rw [shows_step HLK.out, ← hV.out, hT.out, HU2.out, ← HBn.out, List.take_length]
                      unfold oneS
                      omega
                    have hbq := hbk.trans ((hbx.trans (hb.mono hbx.size)).mono hbk.size)
                    clear hT
                    go_wp2_with fail
                    go_roundw
                    case rel => exact ⟨j + 1, T, by omega, by go_num, rfl, HN, hbq⟩
                    case measure => simp [RowKit.intOf]; omega
          · obtain rfl : j = k := by omega
            have hdj : decide ((j : Int) < (j : Int)) = false := decide_eq_false (by omega)
            have HF : Hid (V = showsV s t lo hi l) := by
              have := hV.out
              rwa [← HSn.out, List.take_length] at this
            clear hV
            go_wp2_with fail
            go_ret2
            exact .inr ⟨by rw [← HF.out]; rfl, HOK.out, hb00.trans (hb.mono hb00.size)⟩
      · have d64 : decide ((k : Int) > 64) = true := decide_eq_true (by omega)
        have HR : Hid (¬ spansOK l) := fun h => by have := h.2; rw [HSn.out] at this; exact h64 this
        clear hO rS
        go_wp2_with fail
        go_ret2
        exact .inl ⟨rfl, HR.out, hb00⟩
end Go.Proofs.Ytpklcjbdmikbdaa
namespace Go.Proofs.Ytpklcjbdmikbdaa
open Go.RowKit

theorem bools_one (l : List Bool) : ∀ u ∈ l.map Value.bool, u.oneCell' = true := by
  intro u hu
  obtain ⟨x, _, rfl⟩ := List.mem_map.1 hu
  rfl
/-- A row in the making: n of the element, then false. -/
def filledB (x : Bool) (n m : Nat) : List Value := (List.replicate n x ++ List.replicate (m - n) false).map Value.bool
set_option maxRecDepth 100000 in
set_option maxHeartbeats 8000000 in
theorem repeat_bools (x : Bool) (A m c : Nat) (w : World) (hA : RowO w A [x]) (hm : m ≤ 1000) :
    Calls Try.prog 89 #[.slice (some ⟨A, 0, none⟩) 1 c, .int .i64 (m : Int)] w fun e w' => e = .returned (.slice (some ⟨w.heap.size, 0, none⟩) m m) ∧ RowO w' w.heap.size (List.replicate m x) ∧ Below w.heap.size w w' := by
  have hmk := make_bools m (by omega) w
  have hmul : ∀ w, Calls Try.prog 99 #[.int .u64 (1 : Int), .int .u64 (m : Int)] w fun e w' => e = .returned (.tuple #[.int .u64 0, .int .u64 (m : Int)]) ∧ w = w' := fun w => (bits_Mul 1 m (by omega) (by omega) w).mono fun _ _ ⟨a, b⟩ =>
    ⟨by rw [show 1 * m / 18446744073709551616 = 0 by omega, show 1 * m % 18446744073709551616 = m by omega] at a; exact a, b.symm⟩
  have HM := Lib.hid hmul
  clear hmul
  have hlA := hA.lt
  go_enter Try.func89, Try.ntmps89
  go_wp2_with fail
  refine (HM.out _).mono ?_
  rintro e w1 ⟨rfl, rfl⟩
  go_upto_region 7 with fail
  have hb0 := (Below.refl w.heap.size w).alloc (Nat.le_refl _) (.cells (boolr (List.replicate m false)) 4)
  have hN0 : (w.alloc (.cells (boolr (List.replicate m false)) 4)).heap[w.heap.size]? = some (.cells (filledB x 0 m).toArray 4 (0, 0)) := by
    have : (filledB x 0 m).toArray = boolr (List.replicate m false) := by unfold filledB boolr; simp
    rw [this]; exact Blk.new w 4 _
  have hA0 := hA.later hb0
  revert hb0 hN0 hA0
  generalize hNe : w.heap.size = N
  generalize w.alloc (.cells (boolr (List.replicate m false)) 4) = w0
  intro hb0 hN0 hA0
  clear hmk HM
  have hN1 : N < w0.heap.size := (Array.getElem?_eq_some_iff.1 hN0).1
  obtain ⟨C0, hC0⟩ : ∃ C0, C0 = (List.replicate (min 1 m) x).map Value.bool := ⟨_, rfl⟩
  have hn0 : C0.length = Nat.min 1 m := by rw [hC0, List.length_map, List.length_replicate]
  have hs0 : ∀ j v, C0[j]? = some v → w0.cell? ((⟨A, 0, none⟩ : Addr).add j) = some v := fun j v hj => by
    rw [hC0, List.getElem?_map, List.getElem?_replicate] at hj
    split at hj
    · rename_i hj2
      obtain rfl : j = 0 := by omega
      simp at hj
      subst hj
      exact hA0.at_ rfl
    · simp at hj
  have hf0 : 0 + C0.length ≤ (filledB x 0 m).length := by rw [hn0, filledB, List.length_map, List.length_append, List.length_replicate, List.length_replicate, show Nat.min 1 m = min 1 m from rfl]; omega
  have ho0 : ∀ v ∈ C0, v.oneCell' = true := by rw [hC0]; exact bools_one _
  have HS : Hid (splice (filledB x 0 m) 0 C0 = filledB x (min 1 m) m) := by
    show _ = _
    rw [hC0]
    have := splice_fill (Value.bool x) (.bool false) 0 m (min 1 m) (by omega)
    unfold filledB
    simp only [List.map_append, List.map_replicate, Nat.sub_zero, Nat.zero_add] at this ⊢
    exact this
  have HL : Hid (C0.length = min 1 m) := by show _ = _; rw [hC0]; simp
  clear hC0
  go_wp2_with (with_reducible refine wpList_copy_splice rfl _ _ 92 92 rfl 4 Try.underlying92 info_size4 _ _ _ _ _ _ rfl rfl N 0 (filledB x 0 m) 4 hN0 C0 hn0 (fun _ => ⟨rfl, _, rfl, hs0⟩) hf0 ho0 N w hb0 (Nat.le_refl _) ?_; intro w1 hN2 hb1)
  have HN : w1.heap[N]? = some (.cells (filledB x (Nat.min 1 m) m).toArray 4 (0, 0)) := by rw [show Nat.min 1 m = min 1 m from rfl, ← HS.out]; exact hN2.out
  have hn1 : Nat.min 1 m ≤ m := Nat.min_le_right 1 m
  have hn2 : 0 < m → 0 < Nat.min 1 m := fun h => by rw [show Nat.min 1 m = min 1 m from rfl]; omega
  clear HL HS hN2 hs0 hf0 ho0 hn0 hN0 hN1 hA0 hb0
  revert HN hn1 hn2
  generalize Nat.min 1 m = n1
  intro HN hn1 hn2
  go_loopw [8] (fun v wr => ∃ n : Nat, n ≤ m ∧ Hid (0 < m → 0 < n) ∧ v = .int .i64 n ∧ Hid (wr.heap[N]? = some (.cells (filledB x n m).toArray 4 (0, 0))) ∧ Below N w wr) (fun v _ => m - (intOf v).toNat)
  case atStart => exact ⟨n1, hn1, hn2, rfl, HN, hb1⟩
  case round =>
    clear HN hn1 hn2 hb1
    obtain ⟨n, hn, hp, rfl, hN, hb⟩ := hrel
    by_cases hlt : n < m
    · have hnp : 0 < n := hp.out (by omega)
      obtain ⟨c1, hc1⟩ : ∃ c1, c1 = min n (m - n) := ⟨_, rfl⟩
      have hc2 : n + c1 ≤ m := by omega
      have hc3 : 0 < c1 := by omega
      have hc4 : c1 ≤ n := by omega
      obtain ⟨C0, hC0⟩ : ∃ C0, C0 = (List.replicate c1 x).map Value.bool := ⟨_, rfl⟩
      have hn0 : C0.length = c1 := by rw [hC0]; simp
      have hN0 := hN.out
      have ho0 : ∀ v ∈ C0, v.oneCell' = true := by rw [hC0]; exact bools_one _
      have hf0 : n + C0.length ≤ (filledB x n m).length := by rw [hn0]; simp [filledB]; omega
      have HS : Hid (splice (filledB x n m) n C0 = filledB x (n + c1) m) := by
        show _ = _
        rw [hC0]
        have := splice_fill (Value.bool x) (.bool false) n m c1 hc2
        unfold filledB
        simp only [List.map_append, List.map_replicate] at this ⊢
        exact this
      have HC := Lib.hid hC0
      have hl1 : C0.length ≤ 1000 := by omega
      have hl2 : n + C0.length ≤ m := by omega
      have hl3 : 0 < C0.length := by omega
      have HL := Lib.hid hn0
      have HC1 := Lib.hid hc1
      have HF := Lib.hid hf0
      clear hC0 hn0 hc1 hf0 hN0
      go_wp2_with fail
      have hN3 : wr.drew.heap[N]? = some (.cells (filledB x n m).toArray 4 (0, 0)) := hN.out
      have hb3 : Below N w wr.drew := hb.trans (Below.refl _ _).drew
      have hne : ¬ m = n := by omega
      have hN1 : N < wr.drew.heap.size := (Array.getElem?_eq_some_iff.1 hN3).1
      have hn0 : C0.length = Nat.min n (m - n) := by rw [HL.out, HC1.out]
      have hs0 : ∀ j v, C0[j]? = some v → wr.drew.cell? ((⟨N, 0, none⟩ : Addr).add j) = some v := fun j v hj => by
        rw [HC.out, List.getElem?_map, List.getElem?_replicate] at hj
        split at hj
        · rename_i hj2
          simp at hj
          subst hj
          rw [Addr.add_lit, Nat.zero_add, cell_of_row wr.drew N j _ 4 (0, 0) hN3]
          unfold filledB
          rw [List.getElem?_toArray, List.getElem?_map, List.getElem?_append_left (by simp; omega), List.getElem?_replicate, if_pos (by omega)]
          rfl
        · simp at hj
      have HN0 := Lib.hid hn0
      clear hn0
      go_region_law (refine step_copy_splice rfl (.tmp 41) (.tmp 44) 92 92 rfl 4 Try.underlying92 info_size4 (some ⟨N, n, none⟩) (some ⟨N, 0, none⟩) (m - n) (m - n) n m (by simp [Act.eval, Act.put]) (by simp [Act.eval, Act.put]) N n (filledB x n m) 4 hN3 C0 HN0.out (fun _ => ⟨rfl, _, rfl, hs0⟩) HF.out ho0 N w hb3 (Nat.le_refl _) ?_; intro w4 hN4 hb4)
      all_goals
        have HN4 : Hid (w4.heap[N]? = some (.cells (filledB x (n + C0.length) m).toArray 4 (0, 0))) := by
          show _ = _
          rw [HL.out, ← HS.out]
          exact hN4.out
        clear hN4 hN3 hs0
        simp only [Act.put, List.getElem_toArray, List.getElem_cons_succ, List.getElem_cons_zero, List.setIfInBounds_toArray, List.set_cons_succ, List.set_cons_zero, IntWalk.i64_in ((n : Int) + (C0.length : Int)) (by omega)]
        go_roundw
        case rel => (repeat apply Exists.intro); exact ⟨⟨n + C0.length, hl2, fun _ => by omega, by go_num, HN4.out, hb4⟩, rfl⟩
        case measure => simp [intOf]; omega
    · obtain rfl : n = m := by omega
      have HR : Hid (RowO wr N (List.replicate n x)) := by
        have h1 := hN.out
        unfold filledB at h1
        rw [Nat.sub_self, List.replicate_zero, List.append_nil] at h1
        exact h1
      go_wp2_with fail
      go_ret
      rw [hNe]
      exact ⟨rfl, HR.out, hb⟩
end Go.Proofs.Ytpklcjbdmikbdaa
namespace Go.Proofs.Ytpklcjbdmikbdaa
open Go.RowKit

section
variable {F : Nat → Nat → Prop} {m N n : Nat} {o : List Int}
/-- For each shaft of T there is a pairing of as many, on the same holes, that leaves it over and that agrees with o on the shafts outside of T. -/
def LeftO (F : Nat → Nat → Prop) (m N n : Nat) (o : List Int) (T : Nat → Prop) : Prop :=
  ∀ x, T x → x < N → ∃ M, Mat F (· < N) (· < m) M ∧ M.length = n ∧ (∀ e ∈ M, e.1 ≠ x) ∧ (∀ k, (∃ y, (y, k) ∈ M) ↔ ∃ y, (y, k) ∈ mateF 0 o) ∧ ∀ y k, (y, k) ∈ mateF 0 o → ¬ T y → (y, k) ∈ M
theorem mem_mate0 {x k : Nat} {o : List Int} : (x, k) ∈ mateF 0 o ↔ o[k]? = some (x : Int) := by
  rw [mem_mate]; simp
theorem LeftO.start (h : Upto F m N o n) (T : Nat → Prop) (hT : ∀ x k : Nat, T x → o[k]? ≠ some (x : Int)) : LeftO F m N n o T := fun x hx _ =>
  ⟨mateF 0 o, h.mat, by rw [mate_len]; exact h.cnt, fun e he e1 => by
    obtain ⟨y, k⟩ := e
    subst e1
    exact hT _ _ hx (mem_mate0.1 he), fun k => Iff.rfl, fun y k hy _ => hy⟩
theorem LeftO.taken (hu : Upto F m N o n) {T : Nat → Prop} (h : LeftO F m N n o T) {x k : Nat} (hx : T x) (hN : x < N) (hk : k < m) (hF : F x k) : ∃ y : Nat, o[k]? = some (y : Int) := by
  obtain ⟨M, m1, m2, m3, m4, m5⟩ := h x hx hN
  by_cases hc : ∃ y, (y, k) ∈ mateF 0 o
  · obtain ⟨y, hy⟩ := hc
    exact ⟨y, mem_mate0.1 hy⟩
  · exfalso
    have h1 := Mat.cons m1 (x := x) (k := k) m3 (fun e he e1 => hc ((m4 k).1 ⟨e.1, by rw [← e1]; exact he⟩)) hN hk hF
    have h2 := hu.mx.2 _ h1
    rw [List.length_cons] at h2
    omega
theorem filter_ne_len {M : List (Nat × Nat)} (hn : M.Nodup) {a : Nat × Nat} (ha : a ∈ M) : (M.filter fun e => !(e == a)).length + 1 = M.length := by
  have h1 := filter_split M (fun e => e == a)
  have h2 := filter_one hn (fun e => e == a) (fun e _ e' _ h h' => by
    have a1 : e = a := by simpa using h
    have a2 : e' = a := by simpa using h'
    rw [a1, a2])
  have h3 : 0 < (M.filter fun e => e == a).length := List.length_pos_of_mem (List.mem_filter.2 ⟨ha, by simp⟩)
  omega
theorem LeftO.step {T : Nat → Prop} (h : LeftO F m N n o T) {x k y : Nat} (hx : T x) (hN : x < N) (hk : k < m) (hF : F x k) (hy : o[k]? = some (y : Int)) (hT : ¬ T y) : LeftO F m N n o (fun z => T z ∨ z = y) := by
  intro z hz hzN
  by_cases e : T z
  · obtain ⟨M, m1, m2, m3, m4, m5⟩ := h z e hzN
    exact ⟨M, m1, m2, m3, m4, fun a b hab hn => m5 a b hab fun ht => hn (.inl ht)⟩
  · obtain rfl : z = y := by rcases hz with hz | hz; exact absurd hz e; exact hz
    obtain ⟨M, m1, m2, m3, m4, m5⟩ := h x hx hN
    have hm := m5 z k (mem_mate0.2 hy) hT
    have hne : x ≠ z := fun e1 => hT (e1 ▸ hx)
    have f1 := m1.filter (fun e => !(e == (z, k)))
    have g1 : ∀ e ∈ M.filter (fun e => !(e == (z, k))), e.2 ≠ k := fun e he e1 => by
      obtain ⟨h1, h2⟩ := List.mem_filter.1 he
      have := m1.snd_eq h1 hm e1
      simp [this] at h2
    refine ⟨(x, k) :: M.filter (fun e => !(e == (z, k))), Mat.cons f1 (fun e he => m3 e (List.mem_filter.1 he).1) g1 hN hk hF, ?_, ?_, ?_, ?_⟩
    · rw [List.length_cons, filter_ne_len m1.nodup hm, m2]
    · intro e he
      rcases List.mem_cons.1 he with rfl | he
      · exact hne
      · obtain ⟨h1, h2⟩ := List.mem_filter.1 he
        intro e1
        have := m1.fst_eq h1 hm e1
        simp [this] at h2
    · intro g
      rw [← m4 g]
      constructor
      · rintro ⟨a, ha⟩
        rcases List.mem_cons.1 ha with ha | ha
        · cases ha
          exact ⟨z, hm⟩
        · exact ⟨a, (List.mem_filter.1 ha).1⟩
      · rintro ⟨a, ha⟩
        by_cases e1 : (a, g) = (z, k)
        · cases e1
          exact ⟨x, by simp⟩
        · exact ⟨a, List.mem_cons_of_mem _ (List.mem_filter.2 ⟨ha, by simpa using e1⟩)⟩
    · intro a b hab hn
      refine List.mem_cons_of_mem _ (List.mem_filter.2 ⟨m5 a b hab fun ht => hn (.inl ht), ?_⟩)
      have : (a, b) ≠ (z, k) := fun e1 => hn (.inr (by cases e1; rfl))
      simpa using this
/-- What stuck returns: the shafts left over are marked; a hole that a marked shaft fits has a marked shaft. -/
structure Stuck (F : Nat → Nat → Prop) (m N : Nat) (o : List Int) (t : List Bool) : Prop where
  len : t.length = N
  free : ∀ x, x < N → (∀ k : Nat, o[k]? ≠ some (x : Int)) → t[x]? = some true
  shut : ∀ x k, t[x]? = some true → k < m → F x k → ∃ y : Nat, o[k]? = some (y : Int) ∧ t[y]? = some true
theorem range_split (N : Nat) (p : Nat → Bool) : N = ((List.range N).filter p).length + ((List.range N).filter fun x => !p x).length := by
  have := filter_split (List.range N) p
  rwa [List.length_range] at this
theorem Stuck.count (hu : Upto F m N o n) {t : List Bool} (h : Stuck F m N o t) (hole : Nat → Bool) (hh : ∀ k, k < m → hole k = true → ∃ y : Nat, o[k]? = some (y : Int) ∧ t[y]? = some true) :
    ((List.range m).filter hole).length + N ≤ ((List.range N).filter fun x => t.getD x false).length + n := by
  have h1 := filter_split (mateF 0 o) (fun e => t.getD e.1 false)
  rw [mate_len, hu.cnt] at h1
  have h2 := range_split N (fun x => t.getD x false)
  have g : ∀ y : Nat, t[y]? = some true → t.getD y false = true := fun y hy => by rw [List.getD_eq_getElem?_getD, hy]; rfl
  have h3 := len_of_sub (a := (List.range m).filter hole) (b := ((mateF 0 o).filter fun e => t.getD e.1 false).map Prod.snd) (List.nodup_range.filter _) (fun k hk => by
    obtain ⟨a, b⟩ := List.mem_filter.1 hk
    obtain ⟨y, hy, ht⟩ := hh k (List.mem_range.1 a) b
    exact List.mem_map.2 ⟨(y, k), List.mem_filter.2 ⟨mem_mate0.2 hy, g y ht⟩, rfl⟩)
  have h4 := len_of_sub (a := (List.range N).filter fun x => !(t.getD x false)) (b := ((mateF 0 o).filter fun e => !(t.getD e.1 false)).map Prod.fst) (List.nodup_range.filter _) (fun x hx => by
    obtain ⟨a, b⟩ := List.mem_filter.1 hx
    by_cases hc : ∃ k : Nat, o[k]? = some (x : Int)
    · obtain ⟨k, hk⟩ := hc
      exact List.mem_map.2 ⟨(x, k), List.mem_filter.2 ⟨mem_mate0.2 hk, b⟩, rfl⟩
    · have := g x (h.free x (List.mem_range.1 a) fun k hk => hc ⟨k, hk⟩)
      rw [this] at b
      cases b)
  rw [List.length_map] at h3 h4
  omega
end
/-! ### Spans that lie apart -/
theorem apart {l : List (Int × Int)} (h : spOK l l.length) : ∀ i j : Nat, i < j → ∀ p q, l[i]? = some p → l[j]? = some q → p.2 < q.1 := by
  intro i j
  induction j with
  | zero => intro h0; omega
  | succ j ih =>
    intro hij p q hp hq
    have hj : j + 1 < l.length := (List.getElem?_eq_some_iff.1 hq).1
    have hr : l[j]? = some l[j] := List.getElem?_eq_getElem (by omega)
    have h1 := (h (j + 1) q hj hq).2 l[j] (by omega) hr
    have h2 := (h j l[j] (by omega) hr).1.2.1
    rcases Nat.lt_or_ge i j with h3 | h3
    · have := ih h3 p l[j] hp hr
      omega
    · obtain rfl : i = j := by omega
      rw [hr] at hp
      cases hp
      exact h1
theorem pairwise_apart {l : List (Int × Int)} (h : spOK l l.length) : l.Pairwise fun p q => p.2 < q.1 := by
  rw [List.pairwise_iff_getElem]
  intro i j hi hj hij
  exact apart h i j hij _ _ (List.getElem?_eq_getElem hi) (List.getElem?_eq_getElem hj)
theorem count_any_le (xs : List Int) (f : Int × Int → Int → Bool) : ∀ l : List (Int × Int), xs.countP (fun x => l.any fun p => f p x) ≤ (l.map fun p => xs.countP (f p)).sum
  | [] => by simp
  | p :: l => by
    have ih := count_any_le xs f l
    rw [List.map_cons, List.sum_cons]
    have : xs.countP (fun x => (p :: l).any fun p => f p x) ≤ xs.countP (f p) + xs.countP (fun x => l.any fun p => f p x) := by
      clear ih
      induction xs with
      | nil => simp
      | cons x xs ih =>
        simp only [List.countP_cons, List.any_cons] at ih ⊢
        cases f p x <;> cases (l.any fun p => f p x) <;> simp at ih ⊢ <;> omega
    omega
theorem count_any_ge (xs : List Int) (f : Int × Int → Int → Bool) : ∀ l : List (Int × Int), l.Pairwise (fun p q => ∀ x, f p x = true → f q x = false) → (l.map fun p => xs.countP (f p)).sum ≤ xs.countP (fun x => l.any fun p => f p x)
  | [], _ => by simp
  | p :: l, h => by
    rw [List.pairwise_cons] at h
    have ih := count_any_ge xs f l h.2
    rw [List.map_cons, List.sum_cons]
    have : xs.countP (f p) + xs.countP (fun x => l.any fun p => f p x) ≤ xs.countP (fun x => (p :: l).any fun p => f p x) := by
      clear ih
      have hd : ∀ x, f p x = true → (l.any fun p => f p x) = false := fun x hx => by
        rw [List.any_eq_false]
        intro q hq
        simp [h.1 q hq x hx]
      induction xs with
      | nil => simp
      | cons x xs ih =>
        have := hd x
        simp only [List.countP_cons, List.any_cons] at ih ⊢
        cases hf : f p x
        · cases (l.any fun p => f p x) <;> simp at ih ⊢ <;> omega
        · rw [this hf]
          simp at ih ⊢
          omega
    omega
theorem shows_parts (s h : List Int) (lo hi : Int) : ∀ l : List (Int × Int), showsV s h lo hi l = ((l.map fun p => s.countP (shIn lo hi p)).sum : Nat) - ((l.map fun p => h.countP (hoIn p)).sum : Nat)
  | [] => by simp [showsV]
  | p :: l => by
    have ih := shows_parts s h lo hi l
    unfold showsV at ih ⊢
    simp only [List.map_cons, List.sum_cons, ih]
    unfold oneS
    omega
theorem count_range (s : List Int) (p : Int → Bool) : s.countP p = ((List.range s.length).filter fun i => p (s.getD i 0)).length := by
  have e : s = (List.range s.length).map fun i => s.getD i 0 := by
    refine List.ext_getElem? fun i => ?_
    by_cases hi : i < s.length
    · rw [List.getElem?_map, List.getElem?_range hi, List.getElem?_eq_getElem hi]
      simp [List.getD_eq_getElem?_getD, hi]
    · rw [List.getElem?_eq_none (by omega), List.getElem?_eq_none (by simp; omega)]
  conv => lhs; rw [e]
  rw [List.countP_map, List.countP_eq_length_filter]
  rfl
theorem disj_ho {l : List (Int × Int)} (h : spOK l l.length) : l.Pairwise fun p q => ∀ x, hoIn p x = true → hoIn q x = false := by
  refine (pairwise_apart h).imp fun {p q} hpq x hx => ?_
  unfold hoIn at hx ⊢
  simp only [Bool.and_eq_true, decide_eq_true_eq] at hx
  have : ¬ q.1 ≤ x := by omega
  simp [this]
theorem disj_sh {l : List (Int × Int)} {lo hi : Int} (h : spOK l l.length) : l.Pairwise fun p q => ∀ x, shIn lo hi p x = true → shIn lo hi q x = false := by
  refine (pairwise_apart h).imp fun {p q} hpq x hx => ?_
  unfold shIn at hx ⊢
  simp only [Bool.and_eq_true, decide_eq_true_eq] at hx
  have : ¬ q.1 ≤ x + lo := by omega
  simp [this]
/-- No spans show more than what is left over. -/
theorem shows_le {s h : List Int} {lo hi : Int} {n : Nat} (hm : Mx (fitP s h lo hi) (fun _ => True) (· < h.length) n) {l : List (Int × Int)} (hl : spansOK l) : showsV s h lo hi l ≤ (s.length : Int) - n := by
  rw [shows_parts]
  have a := count_any_ge s (shIn lo hi) l (disj_sh hl.1)
  have b := count_any_le h hoIn l
  obtain ⟨⟨M, m1, m2⟩, _⟩ := hm
  rw [count_range] at a b
  have h1 := filter_split M (fun e => l.any fun p => shIn lo hi p (s.getD e.1 0))
  have h2 := range_split s.length (fun i => l.any fun p => shIn lo hi p (s.getD i 0))
  have h3 := len_of_sub (a := (M.filter fun e => l.any fun p => shIn lo hi p (s.getD e.1 0)).map Prod.snd) (b := (List.range h.length).filter fun k => l.any fun p => hoIn p (h.getD k 0)) ((m1.filter _).two) (fun k hk => by
    obtain ⟨e, he, rfl⟩ := List.mem_map.1 hk
    obtain ⟨he1, he2⟩ := List.mem_filter.1 he
    obtain ⟨_, hk, f1, f2, f3, f4⟩ := m1.ok e he1
    refine List.mem_filter.2 ⟨List.mem_range.2 f2, ?_⟩
    obtain ⟨p, hp, hin⟩ := List.any_eq_true.1 he2
    refine List.any_eq_true.2 ⟨p, hp, ?_⟩
    unfold shIn at hin
    unfold hoIn
    simp only [Bool.and_eq_true, decide_eq_true_eq] at hin ⊢
    omega)
  have h4 := len_of_sub (a := (M.filter fun e => !(l.any fun p => shIn lo hi p (s.getD e.1 0))).map Prod.fst) (b := (List.range s.length).filter fun i => !(l.any fun p => shIn lo hi p (s.getD i 0))) ((m1.filter _).one) (fun x hx => by
    obtain ⟨e, he, rfl⟩ := List.mem_map.1 hx
    obtain ⟨he1, he2⟩ := List.mem_filter.1 he
    exact List.mem_filter.2 ⟨List.mem_range.2 (m1.ok e he1).2.2.1, he2⟩)
  rw [List.length_map] at h3 h4
  omega
/-- Spans that are the marked shafts' ranges together: they show all that is left over. -/
theorem shows_ge {s h : List Int} {lo hi : Int} {n : Nat} {o : List Int} {t : List Bool} (hu : Upto (fitP s h lo hi) h.length s.length o n) (hs : Stuck (fitP s h lo hi) h.length s.length o t) {l : List (Int × Int)} (hl : spansOK l)
    (h1 : ∀ x, x < s.length → t[x]? = some true → ∃ p ∈ l, p.1 ≤ s.getD x 0 + lo ∧ s.getD x 0 + hi ≤ p.2) (hlh : lo ≤ hi) (h2 : ∀ p ∈ l, ∀ v, p.1 ≤ v → v ≤ p.2 → ∃ x, x < s.length ∧ t[x]? = some true ∧ s.getD x 0 + lo ≤ v ∧ v ≤ s.getD x 0 + hi) :
    (s.length : Int) - n ≤ showsV s h lo hi l := by
  rw [shows_parts]
  have a := count_any_le s (shIn lo hi) l
  have b := count_any_ge h hoIn l (disj_ho hl.1)
  rw [count_range] at a b
  have c := hs.count hu (fun k => l.any fun p => hoIn p (h.getD k 0)) (fun k hk hc => by
    obtain ⟨p, hp, hin⟩ := List.any_eq_true.1 hc
    unfold hoIn at hin
    simp only [Bool.and_eq_true, decide_eq_true_eq] at hin
    obtain ⟨x, x1, x2, x3, x4⟩ := h2 p hp _ hin.1 hin.2
    exact hs.shut x k x2 hk ⟨x1, hk, by omega, by omega⟩)
  have d := len_of_sub (a := (List.range s.length).filter fun x => t.getD x false) (b := (List.range s.length).filter fun i => l.any fun p => shIn lo hi p (s.getD i 0)) (List.nodup_range.filter _) (fun x hx => by
    obtain ⟨a1, a2⟩ := List.mem_filter.1 hx
    have hxl := List.mem_range.1 a1
    have ht : t[x]? = some true := by
      have hlt : x < t.length := by rw [hs.len]; exact hxl
      rw [List.getD_eq_getElem?_getD, List.getElem?_eq_getElem hlt] at a2
      rw [List.getElem?_eq_getElem hlt]
      simpa using a2
    obtain ⟨p, hp, q1, q2⟩ := h1 x hxl ht
    refine List.mem_filter.2 ⟨a1, List.any_eq_true.2 ⟨p, hp, ?_⟩⟩
    unfold shIn
    simp only [Bool.and_eq_true, decide_eq_true_eq]
    omega)
  omega
end Go.Proofs.Ytpklcjbdmikbdaa
namespace Go.Proofs.Ytpklcjbdmikbdaa
open Go.RowKit

/-- The marks so far. -/
structure StkI (F : Nat → Nat → Prop) (m N n : Nat) (o : List Int) (t : List Bool) : Prop where
  len : t.length = N
  left : LeftO F m N n o (fun x => t[x]? = some true)
  free : ∀ x, x < N → (∀ k : Nat, o[k]? ≠ some (x : Int)) → t[x]? = some true
/-- Closed as far as shaft i and hole j. -/
def ClosTo (F : Nat → Nat → Prop) (m : Nat) (o : List Int) (t : List Bool) (i j : Nat) : Prop :=
  ∀ x k, t[x]? = some true → k < m → F x k → (x < i ∨ (x = i ∧ k < j)) → ∃ y : Nat, o[k]? = some (y : Int) ∧ t[y]? = some true
section
variable {F : Nat → Nat → Prop} {m N n i j : Nat} {o : List Int} {t : List Bool}
theorem ClosTo.zero : ClosTo F m o t 0 0 := fun x k _ _ _ h => by omega
theorem ClosTo.next (h : ClosTo F m o t i j) (hij : t[i]? = some true → F i j → ∃ y : Nat, o[j]? = some (y : Int) ∧ t[y]? = some true) : ClosTo F m o t i (j + 1) := fun x k hx hk hF hlt => by
  by_cases e : x = i ∧ k = j
  · obtain ⟨rfl, rfl⟩ := e
    exact hij hx hF
  · exact h x k hx hk hF (by omega)
theorem ClosTo.row (h : ClosTo F m o t i m) : ClosTo F m o t (i + 1) 0 := fun x k hx hk hF hlt => h x k hx hk hF (by omega)
theorem StkI.done (h : StkI F m N n o t) (hN : ∀ x k, F x k → x < N) (hc : ClosTo F m o t N 0) : Stuck F m N o t := ⟨h.len, h.free, fun x k hx hk hF => hc x k hx hk hF (.inl (hN x k hF))⟩
theorem StkI.mark (h : StkI F m N n o t) {x k y : Nat} (hx : t[x]? = some true) (hN : x < N) (hk : k < m) (hF : F x k) (hy : o[k]? = some (y : Int)) (hyN : y < N) (hT : t[y]? = some false) : StkI F m N n o (t.set y true) := by
  have hyt : y < t.length := by rw [h.len]; exact hyN
  refine ⟨by rw [List.length_set]; exact h.len, ?_, fun x hx hf => ?_⟩
  · have := h.left.step hx hN hk hF hy (fun e => by rw [hT] at e; cases e)
    intro z hz hzN
    refine (fun (q : ∃ M, Mat F (· < N) (· < m) M ∧ M.length = n ∧ (∀ e ∈ M, e.1 ≠ z) ∧ (∀ k, (∃ y, (y, k) ∈ M) ↔ ∃ y, (y, k) ∈ mateF 0 o) ∧ ∀ a b, (a, b) ∈ mateF 0 o → ¬ (t[a]? = some true ∨ a = y) → (a, b) ∈ M) => ?_) (this z (by
      rw [set_true hyt] at hz
      split at hz
      · rename_i e; exact .inr e.symm
      · exact .inl hz) hzN)
    obtain ⟨M, m1, m2, m3, m4, m5⟩ := q
    refine ⟨M, m1, m2, m3, m4, fun a b hab hn => m5 a b hab fun hc => hn ?_⟩
    show (t.set y true)[a]? = some true
    rw [set_true hyt]
    rcases hc with hc | hc
    · split
      · rfl
      · exact hc
    · rw [if_pos hc.symm]
  · rw [set_true hyt]
    split
    · rfl
    · exact h.free x hx hf
end
def StuR (s h : List Int) (lo hi : Int) (o : List Int) (w : World) (e : Ending) (w' : World) : Prop :=
  ∃ (B : Nat) (t : List Bool), e = .returned (.slice (some ⟨B, 0, none⟩) s.length s.length) ∧ RowO w' B t ∧ Stuck (fitP s h lo hi) h.length s.length o t ∧ w.heap.size ≤ B ∧ Below w.heap.size w w'
set_option maxRecDepth 100000 in
set_option maxHeartbeats 16000000 in
theorem stuck_any {J : Nat} {As Ah : Option Addr} {cs ch : Nat} {s h : List Int} {lo hi : Int} (Q P c1 n : Nat) (sv : Value) (o : List Int) (w : World) (j : JobW w J As Ah cs ch s h lo hi) (hQ : Blk w Q 120 #[.pointer (some ⟨J, 0, none⟩), .slice (some ⟨P, 0, none⟩) h.length c1, sv])
    (hP : RowB w P o) (hs : Sizes s) (hh : Sizes h) (l1 : s.length ≤ 64) (l2 : h.length ≤ 64) (hu : Upto (fitP s h lo hi) h.length s.length o n) : Calls Try.prog 66 #[.pointer (some ⟨Q, 0, none⟩)] w (StuR s h lo hi o w) := by
  have hcQ := hQ.cell
  have hlQ := hQ.lt
  have hcJ := j.blk.cell
  have hlJ := j.blk.lt
  have HU := Lib.hid hu
  have hA0 : Below w.heap.size w (w.alloc (.cells #[.bool true] 4)) := (Below.refl _ _).alloc (Nat.le_refl _) _
  have hrA : RowO (w.alloc (.cells #[.bool true] 4)) w.heap.size [true] := Blk.new w 4 _
  have HR := Lib.hid (repeat_bools true w.heap.size s.length 1 _ hrA (by omega))
  clear hu
  go_enter Try.func66, Try.ntmps66
  go_wp2_with fail
  refine HR.out.mono ?_
  rintro e w1 ⟨rfl, hB, hb1⟩
  have hsz : (w.alloc (.cells #[.bool true] 4)).heap.size = w.heap.size + 1 := by simp
  rw [hsz] at hB hb1
  have hw1 : Below w.heap.size w w1 := hA0.trans (hb1.mono (Nat.le_succ _))
  obtain ⟨B, hBe⟩ : ∃ B, B = w.heap.size + 1 := ⟨_, rfl⟩
  have hNB : w.heap.size ≤ B := by omega
  rw [hsz, ← hBe]
  rw [← hBe] at hB
  clear hsz hb1 hA0 hrA HR hcQ hlQ hcJ hlJ hBe
  have hQ1 := hQ.later hw1
  have hcQ := hQ1.cell
  have hlQ := hQ1.lt
  have hol := Lib.hid HU.out.len
  go_wp2_with fail
  clear hcQ hlQ hQ1
  go_loopw [5, 25] (fun _ i wr => ∃ (k : Nat) (t : List Bool), k ≤ h.length ∧ i = .int .i64 k ∧ RowO wr B t ∧ Hid (t.length = s.length ∧ ∀ x, x < s.length → (t[x]? = some true ↔ ∀ g : Nat, g < k → o[g]? ≠ some (x : Int))) ∧ Below w.heap.size w wr) (fun _ i _ => h.length - (RowKit.intOf i).toNat)
  case atStart => exact ⟨0, _, Nat.zero_le _, rfl, hB, ⟨by simp, fun x hx => ⟨fun _ g hg => by omega, fun _ => by rw [List.getElem?_replicate, if_pos hx]⟩⟩, hw1⟩
  case round =>
    clear hB hw1
    obtain ⟨k, t, hk, rfl, hB, hT, hb⟩ := hrel
    have hP1 := hP.later hb
    by_cases hlt : k < h.length
    · have hd : decide ((k : Int) < (h.length : Int)) = true := decide_eq_true (by omega)
      have hki : (k : Int) < (h.length : Int) := by omega
      obtain ⟨v, hv⟩ : ∃ v, o[k]? = some v := ⟨_, List.getElem?_eq_getElem (by have := hol.out; omega)⟩
      have HV := Lib.hid hv
      have cP := hP1.at_ hv
      have lP := hP1.lt
      clear hv
      by_cases hv0 : v < 0
      · have hvd : decide (v ≥ 0) = false := decide_eq_false (by omega)
        have HT2 : Hid (t.length = s.length ∧ ∀ x, x < s.length → (t[x]? = some true ↔ ∀ g : Nat, g < k + 1 → o[g]? ≠ some (x : Int))) := ⟨hT.out.1, fun x hx => by
          rw [hT.out.2 x hx]
          constructor
          · intro a g hg e
            rcases Nat.lt_or_ge g k with h1 | h1
            · exact a g h1 e
            · obtain rfl : g = k := by omega
              rw [HV.out] at e
              injection e with e
              omega
          · exact fun a g hg => a g (by omega)⟩
        clear hT
        go_wp2_with fail
        go_roundw
        case rel => exact ⟨k + 1, t, by omega, by go_num, hB, HT2, hb⟩
        case measure => simp [RowKit.intOf]; omega
      · have hvd : decide (v ≥ 0) = true := decide_eq_true (by omega)
        obtain ⟨y, rfl⟩ := Int.eq_ofNat_of_zero_le (by omega : 0 ≤ v)
        have hyN : y < s.length := HU.out.lt k y HV.out
        have hyi : (y : Int) < (s.length : Int) := by omega
        have HT2 : Hid ((t.set y false).length = s.length ∧ ∀ x, x < s.length → ((t.set y false)[x]? = some true ↔ ∀ g : Nat, g < k + 1 → o[g]? ≠ some (x : Int))) := ⟨by rw [List.length_set]; exact hT.out.1, fun x hx => by
          rw [List.getElem?_set]
          by_cases e : y = x
          · subst e
            rw [if_pos rfl, if_pos (by rw [hT.out.1]; exact hx)]
            exact ⟨fun a => (by cases a), fun a => absurd HV.out (a k (by omega))⟩
          · rw [if_neg e, hT.out.2 x hx]
            constructor
            · intro a g hg e1
              rcases Nat.lt_or_ge g k with h1 | h1
              · exact a g h1 e1
              · obtain rfl : g = k := by omega
                rw [HV.out] at e1
                injection e1 with e1
                omega
            · exact fun a g hg => a g (by omega)⟩
        obtain ⟨b0, hb0⟩ : ∃ b, t[y]? = some b := ⟨_, List.getElem?_eq_getElem (by rw [hT.out.1]; exact hyN)⟩
        have cB := hB.at_ hb0
        have fB := hB.frozen y
        have lB := hB.lt
        have HB2 := Lib.hid (hB.set_ y false)
        have hb2 := hb.setCell (p := ⟨B, y, none⟩) hNB (.bool false)
        have HBB := Lib.hid hb2
        clear hT hb0 hB hb2
        go_wp2_with fail
        go_roundw
        case rel => exact ⟨k + 1, _, by omega, by go_num, HB2.out, HT2, HBB.out⟩
        case measure => simp [RowKit.intOf]; omega
    · obtain rfl : k = h.length := by omega
      have hd : decide ((h.length : Int) < (h.length : Int)) = false := decide_eq_false (by omega)
      have HI : Hid (StkI (fitP s h lo hi) h.length s.length n o t) := by
        have hT2 := hT.out
        refine ⟨hT2.1, LeftO.start HU.out _ fun x g hx e => ?_, fun x hx hf => (hT2.2 x hx).2 fun g _ => hf g⟩
        have hg : g < h.length := by have := (List.getElem?_eq_some_iff.1 e).1; rw [hol.out] at this; exact this
        exact (hT2.2 x (HU.out.lt g x e)).1 hx g hg e
      have HDK : Hid (dark t < s.length + 1) := by
        show _ < _
        have : dark t ≤ t.length := List.length_filter_le _ _
        rw [hT.out.1] at this
        omega
      clear hT hP1
      go_wp2_with fail
      go_loopg [6, 7, 8, 9] (s.length + 1) (fun k u _ _ _ wr => ∃ (t : List Bool) (bm : Bool), u = .bool bm ∧ RowO wr B t ∧ Hid (StkI (fitP s h lo hi) h.length s.length n o t) ∧ Hid (bm = true → dark t < k) ∧ Hid (bm = false → ClosTo (fitP s h lo hi) h.length o t s.length 0) ∧ Below w.heap.size w wr)
      case atStart => exact ⟨t, true, rfl, hB, HI, fun _ => HDK.out, fun e => (by cases e), hb⟩
      case round =>
        clear hB HI HDK hb
        obtain ⟨wo, hwo⟩ : ∃ x, x = wr := ⟨_, rfl⟩
        subst hwo
        obtain ⟨t, bm, rfl, hB, HI, HK, HC, hb⟩ := hrel
        cases bm with
        | false =>
          have HS : Hid (Stuck (fitP s h lo hi) h.length s.length o t) := HI.out.done (fun x k hF => hF.1) (HC.out rfl)
          clear HI HK HC
          go_wp2_with fail
          go_ret
          exact ⟨B, t, rfl, hB, HS.out, hNB, hb⟩
        | true =>
          have hdk := HK.out rfl
          have HDK := Lib.hid hdk
          have hQ1 := hQ.later hb
          have j1 := j.later hb
          have hcQ := hQ1.cell
          have hlQ := hQ1.lt
          have hcJ := j1.blk.cell
          have hlJ := j1.blk.lt
          clear HK HC hdk
          go_wp2_with fail
          clear hcQ hlQ hcJ hlJ hQ1 j1
          go_loopw [6, 7, 8, 9, 44] (fun u _ _ _ i wr => ∃ (x : Nat) (t' : List Bool) (bm : Bool), x ≤ s.length ∧ i = .int .i64 x ∧ u = .bool bm ∧ RowO wr B t' ∧ Hid (StkI (fitP s h lo hi) h.length s.length n o t') ∧ Hid (bm = true → dark t' < dark t) ∧ Hid (bm = false → t' = t ∧ ClosTo (fitP s h lo hi) h.length o t' x 0) ∧ Below w.heap.size w wr) (fun _ _ _ _ i _ => s.length - (RowKit.intOf i).toNat)
          case atStart => exact ⟨0, t, false, Nat.zero_le _, rfl, rfl, hB, HI, fun e => (by cases e), fun _ => ⟨rfl, ClosTo.zero⟩, hb⟩
          case round =>
            clear hB HI hb
            obtain ⟨wx, hwx⟩ : ∃ x, x = wr := ⟨_, rfl⟩
            subst hwx
            obtain ⟨x, tx, bx, hx, rfl, rfl, hB, HI, HK, HC, hb⟩ := hrel
            by_cases hlx : x < s.length
            · have hdx : decide ((x : Int) < (s.length : Int)) = true := decide_eq_true (by omega)
              have hxi : (x : Int) < (s.length : Int) := by omega
              have hQ1 := hQ.later hb
              have hcQ := hQ1.cell
              have hlQ := hQ1.lt
              go_wp2_with fail
              clear hcQ hlQ hQ1
              go_loopw [6, 8, 9, 52] (fun u _ _ i wr => ∃ (k : Nat) (t' : List Bool) (bm : Bool), k ≤ h.length ∧ i = .int .i64 k ∧ u = .bool bm ∧ RowO wr B t' ∧ Hid (StkI (fitP s h lo hi) h.length s.length n o t') ∧ Hid (bm = true → dark t' < dark t) ∧ Hid (bm = false → t' = t ∧ ClosTo (fitP s h lo hi) h.length o t' x k) ∧ Below w.heap.size w wr) (fun _ _ _ i _ => h.length - (RowKit.intOf i).toNat)
              case atStart => exact ⟨0, tx, bx, Nat.zero_le _, rfl, rfl, hB, HI, HK, HC, hb⟩
              case round =>
                clear hB HI hb HK HC
                obtain ⟨k, tk, bk, hk, rfl, rfl, hB, HI, HK, HC, hb⟩ := hrel
                by_cases hlk : k < h.length
                · have hdk : decide ((k : Int) < (h.length : Int)) = true := decide_eq_true (by omega)
                  have hki : (k : Int) < (h.length : Int) := by omega
                  have hQ1 := hQ.later hb
                  have j1 := j.later hb
                  have hP1 := hP.later hb
                  obtain ⟨v, hv⟩ : ∃ v, o[k]? = some v := ⟨_, List.getElem?_eq_getElem (by have := hol.out; omega)⟩
                  have HV := Lib.hid hv
                  have cP := hP1.at_ hv
                  have lP := hP1.lt
                  have hcQ := hQ1.cell
                  have hlQ := hQ1.lt
                  have hcJ := j1.blk.cell
                  have hlJ := j1.blk.lt
                  have lB := hB.lt
                  obtain ⟨bb, hbb⟩ : ∃ b, tk[x]? = some b := ⟨_, List.getElem?_eq_getElem (by rw [HI.out.len]; exact hlx)⟩
                  have HBB := Lib.hid hbb
                  have cB := hB.at_ hbb
                  clear hv hbb
                  cases bb with
                  | false =>
                    have HC2 : Hid (bk = false → tk = t ∧ ClosTo (fitP s h lo hi) h.length o tk x (k + 1)) := fun e => ⟨(HC.out e).1, (HC.out e).2.next fun a _ => by rw [HBB.out] at a; cases a⟩
                    clear HC j1
                    go_wp2_with fail
                    go_roundw
                    case rel => exact ⟨k + 1, tk, bk, by omega, by go_num, rfl, hB, HI, HK, HC2, hb⟩
                    case measure => simp [RowKit.intOf]; omega
                  | true =>
                    have HM := Lib.hid (fits_any (lo := lo) (hi := hi) (cs := cs) (ch := ch) wr j1 hs hh x k hlx hlk)
                    by_cases hfit : fitB s h lo hi x k = true
                    · rw [hfit] at HM
                      have hF := (fitB_iff hlx hlk).1 hfit
                      obtain ⟨y, hy⟩ := HI.out.left.taken HU.out HBB.out hlx hlk hF
                      obtain rfl : v = (y : Int) := by rw [HV.out] at hy; injection hy
                      have hyN : y < s.length := HU.out.lt k y hy
                      have hyi : (y : Int) < (s.length : Int) := by omega
                      obtain ⟨b2, hb2⟩ : ∃ b, tk[y]? = some b := ⟨_, List.getElem?_eq_getElem (by rw [HI.out.len]; exact hyN)⟩
                      have HF := Lib.hid hF
                      have HB2 := Lib.hid hb2
                      clear hy hF j1
                      go_wp2_with fail
                      refine HM.out.mono ?_
                      rintro e w3 ⟨rfl, hb3⟩
                      have hB3 := hB.later hb3
                      have hb4 := hb.trans (hb3.mono hb.size)
                      have cB2 := hB3.at_ HB2.out
                      have lB3 := hB3.lt
                      clear HM cP lP hcQ hlQ hcJ hlJ lB hQ1 hP1 hB hb hb3 hb2 hfit cB
                      cases b2 with
                      | true =>
                        have HC2 : Hid (bk = false → tk = t ∧ ClosTo (fitP s h lo hi) h.length o tk x (k + 1)) := fun e => ⟨(HC.out e).1, (HC.out e).2.next fun _ _ => ⟨y, HV.out, HB2.out⟩⟩
                        clear HC
                        go_wp2_with fail
                        go_roundw
                        case rel => exact ⟨k + 1, tk, bk, by omega, by go_num, rfl, hB3, HI, HK, HC2, hb4⟩
                        case measure => simp [RowKit.intOf]; omega
                      | false =>
                        have fB := hB3.frozen y
                        have HB5 := Lib.hid (hB3.set_ y true)
                        have HBL := Lib.hid (hb4.setCell (p := ⟨B, y, none⟩) hNB (.bool true))
                        have HI2 : Hid (StkI (fitP s h lo hi) h.length s.length n o (tk.set y true)) := HI.out.mark HBB.out hlx hlk HF.out HV.out hyN HB2.out
                        have HK2 : Hid (dark (tk.set y true) < dark t) := by
                          show _ < _
                          have h1 := dark_set HB2.out
                          cases bk with
                          | true => have := HK.out rfl; omega
                          | false => have := (HC.out rfl).1; rw [this] at h1; rw [this]; omega
                        clear HI HK HC hB3 hb4
                        go_wp2_with fail
                        go_roundw
                        case rel => exact ⟨k + 1, _, true, by omega, by go_num, rfl, HB5.out, HI2, fun _ => HK2.out, fun e => (by cases e), HBL.out⟩
                        case measure => simp [RowKit.intOf]; omega
                    · have hfit' : fitB s h lo hi x k = false := by simpa using hfit
                      rw [hfit'] at HM
                      have HC2 : Hid (bk = false → tk = t ∧ ClosTo (fitP s h lo hi) h.length o tk x (k + 1)) := fun e => ⟨(HC.out e).1, (HC.out e).2.next fun _ a => absurd ((fitB_iff hlx hlk).2 a) hfit⟩
                      clear HC hfit hfit' j1
                      go_wp2_with fail
                      refine HM.out.mono ?_
                      rintro e w3 ⟨rfl, hb3⟩
                      have hB3 := hB.later hb3
                      have hb4 := hb.trans (hb3.mono hb.size)
                      clear HM cP lP hcQ hlQ hcJ hlJ lB hQ1 hP1 hB hb hb3 cB
                      go_wp2_with fail
                      go_roundw
                      case rel => exact ⟨k + 1, tk, bk, by omega, by go_num, rfl, hB3, HI, HK, HC2, hb4⟩
                      case measure => simp [RowKit.intOf]; omega
                · obtain rfl : k = h.length := by omega
                  have hdk : decide ((h.length : Int) < (h.length : Int)) = false := decide_eq_false (by omega)
                  have HC2 : Hid (bk = false → tk = t ∧ ClosTo (fitP s h lo hi) h.length o tk (x + 1) 0) := fun e => ⟨(HC.out e).1, (HC.out e).2.row⟩
                  clear HC
                  go_wp2_with fail
                  go_roundw
                  case rel => exact ⟨x + 1, tk, bk, by omega, by go_num, rfl, hB, HI, HK, HC2, hb⟩
                  case measure => simp [RowKit.intOf]; omega
            · obtain rfl : x = s.length := by omega
              have hdx : decide ((s.length : Int) < (s.length : Int)) = false := decide_eq_false (by omega)
              have HC2 : Hid (bx = false → ClosTo (fitP s h lo hi) h.length o tx s.length 0) := fun e => (HC.out e).2
              clear HC
              go_wp2_with fail
              go_roundg (dark t)
              case measure => exact HDK.out
              case rel => exact ⟨tx, bx, rfl, hB, HI, HK, HC2, hb⟩
end Go.Proofs.Ytpklcjbdmikbdaa
namespace Go.Proofs.Ytpklcjbdmikbdaa
open Go.RowKit

theorem own_set {w : World} {base E sz g n c i : Nat} {xs : List Value} (h : w.ownsRow base E sz (.slice (some ⟨g, 0, none⟩) n c) n xs) (v : Value) :
    (w.setCell ⟨g, i, none⟩ v).ownsRow base E sz (.slice (some ⟨g, 0, none⟩) n c) n (xs.set i v) := by
  obtain ⟨h1, h2⟩ := h
  rcases h2 with ⟨h2, _⟩ | ⟨g', cap, cur, h2, h3, h4, h5, h6, h7, h8⟩
  · cases h2
  · cases h2
    refine ⟨by rw [List.length_set]; exact h1, .inr ⟨g, c, cur.setIfInBounds i v, rfl, h3, ?_, h5, h6, by simpa using h7, ?_⟩⟩
    · simp [World.setCell, Array.getElem?_modify, h4]
    · rw [← h8, Array.toList_setIfInBounds, List.take_set]
theorem own_frozen {w : World} {base E sz g n c : Nat} {xs : List Value} (h : w.ownsRow base E sz (.slice (some ⟨g, 0, none⟩) n c) n xs) (i : Nat) : w.frozen? ⟨g, i, none⟩ = false := by
  rcases h.2 with ⟨h2, _⟩ | ⟨g', cap, cur, h2, h3, h4, _⟩
  · cases h2
  · cases h2
    simp [World.frozen?, h4]
section
variable {s o : List Int} {lo hi : Int} {t : List Bool} {k : Nat} {l : List (Int × Int)}
structure LackI (s : List Int) (lo hi : Int) (t : List Bool) (o : List Int) (k : Nat) (l : List (Int × Int)) : Prop where
  ok : spOK l l.length
  len : l.length ≤ k
  cov : ∀ i x : Nat, i < k → o[i]? = some (x : Int) → t[x]? = some true → ∃ p ∈ l, p.1 ≤ s.getD x 0 + lo ∧ s.getD x 0 + hi ≤ p.2
  back : ∀ p ∈ l, ∀ v, p.1 ≤ v → v ≤ p.2 → ∃ x, x < s.length ∧ t[x]? = some true ∧ s.getD x 0 + lo ≤ v ∧ v ≤ s.getD x 0 + hi
  last : ∀ p, 0 < l.length → l[l.length - 1]? = some p → (∃ i y : Nat, i < k ∧ o[i]? = some (y : Int) ∧ p.2 = s.getD y 0 + hi) ∧ ∃ i z : Nat, i < k ∧ o[i]? = some (z : Int) ∧ p.1 = s.getD z 0 + lo
theorem LackI.zero : LackI s lo hi t o 0 [] := ⟨spOK_zero _, Nat.le_refl _, fun i x h => absurd h (by omega), fun p hp => by simp at hp, fun p h => absurd h (by simp)⟩
theorem LackI.skip (h : LackI s lo hi t o k l) {x : Nat} (hx : o[k]? = some (x : Int)) (ht : t[x]? ≠ some true) : LackI s lo hi t o (k + 1) l :=
  ⟨h.ok, by have := h.len; omega, fun i y hi' hy hty => by
    rcases Nat.lt_or_ge i k with h1 | h1
    · exact h.cov i y h1 hy hty
    · obtain rfl : i = k := by omega
      rw [hx] at hy
      have : x = y := by injection hy with hy; omega
      subst this
      exact absurd hty ht, h.back, fun p h0 hp => by
      obtain ⟨⟨i, y, a, b, c⟩, ⟨i', z, a', b', c'⟩⟩ := h.last p h0 hp
      exact ⟨⟨i, y, by omega, b, c⟩, ⟨i', z, by omega, b', c'⟩⟩⟩
theorem up_at (ho : Order s o) {i : Nat} {y x : Nat} (hi' : i < k) (hy : o[i]? = some (y : Int)) (hx : o[k]? = some (x : Int)) : s.getD y 0 ≤ s.getD x 0 := by
  have h1 := List.pairwise_iff_getElem.1 ho.up i k (List.getElem?_eq_some_iff.1 hy).1 (List.getElem?_eq_some_iff.1 hx).1 hi'
  rw [(List.getElem?_eq_some_iff.1 hy).2, (List.getElem?_eq_some_iff.1 hx).2] at h1
  simpa using h1
theorem mem_set_of {l : List (Int × Int)} {j : Nat} {a q : Int × Int} (h : q ∈ l.set j a) : q ∈ l ∨ q = a := by
  rcases List.mem_or_eq_of_mem_set h with h | h
  · exact .inl h
  · exact .inr h
theorem LackI.merge (h : LackI s lo hi t o k l) (ho : Order s o) (hs : Sizes s) (hsp : spanB lo hi = true) {x : Nat} (hx : o[k]? = some (x : Int)) (ht : t[x]? = some true) (hxs : x < s.length) (h0 : 0 < l.length) {p : Int × Int} (hp : l[l.length - 1]? = some p) (hle : s.getD x 0 + lo ≤ p.2) :
    LackI s lo hi t o (k + 1) (l.set (l.length - 1) (p.1, s.getD x 0 + hi)) := by
  obtain ⟨s1, s2, s3⟩ := spanB_iff.1 hsp
  have b := hs.at_ x
  obtain ⟨⟨i, y, a1, a2, a3⟩, ⟨i', z, c1, c2, c3⟩⟩ := h.last p h0 hp
  have u1 := up_at ho a1 a2 hx
  have u2 := up_at ho c1 c2 hx
  have hpm := List.mem_of_getElem? hp
  have hlt : l.length - 1 < l.length := by omega
  have hok := (h.ok (l.length - 1) p hlt hp)
  have hat : ∀ j, (l.set (l.length - 1) (p.1, s.getD x 0 + hi))[j]? = if l.length - 1 = j then some (p.1, s.getD x 0 + hi) else l[j]? := fun j => by
    rw [List.getElem?_set]
    by_cases e : l.length - 1 = j
    · rw [if_pos e, if_pos e, if_pos hlt]
    · rw [if_neg e, if_neg e]
  have hnew : (p.1, s.getD x 0 + hi) ∈ l.set (l.length - 1) (p.1, s.getD x 0 + hi) := List.mem_of_getElem? (by rw [hat, if_pos rfl])
  refine ⟨?_, by rw [List.length_set]; have := h.len; omega, ?_, ?_, ?_⟩
  · intro j q hj hq
    rw [List.length_set] at hj
    rw [hat] at hq
    by_cases e : l.length - 1 = j
    · rw [if_pos e] at hq
      injection hq with hq
      subst hq
      unfold okS at hok ⊢
      refine ⟨by have := hok.1; omega, fun r hr hr2 => ?_⟩
      rw [hat, if_neg (by omega)] at hr2
      exact hok.2 r (by omega) (by rw [e]; exact hr2)
    · rw [if_neg e] at hq
      have hq2 := h.ok j q hj hq
      refine ⟨hq2.1, fun r hr hr2 => ?_⟩
      rw [hat, if_neg (by omega)] at hr2
      exact hq2.2 r hr hr2
  · intro j y' hj hy' hty
    rcases Nat.lt_or_ge j k with g | g
    · obtain ⟨q, hq, q1, q2⟩ := h.cov j y' g hy' hty
      by_cases e : q = p
      · subst e
        exact ⟨_, hnew, q1, by have := up_at ho g hy' hx; show s.getD y' 0 + hi ≤ s.getD x 0 + hi; omega⟩
      · obtain ⟨j', hj', hq'⟩ := List.mem_iff_getElem.1 hq
        refine ⟨q, List.mem_of_getElem? (i := j') ?_, q1, q2⟩
        rw [hat, if_neg (by
          intro e1
          have : l[j']? = some q := by rw [List.getElem?_eq_getElem hj', hq']
          rw [← e1, hp] at this
          injection this with this
          exact e this.symm), List.getElem?_eq_getElem hj', hq']
    · obtain rfl : j = k := by omega
      rw [hx] at hy'
      have : x = y' := by injection hy' with hy'; omega
      subst this
      refine ⟨_, hnew, ?_, Int.le_refl _⟩
      show p.1 ≤ _
      omega
  · intro q hq v v1 v2
    rcases mem_set_of hq with hq | rfl
    · exact h.back q hq v v1 v2
    · rcases (show p.2 < v ∨ v ≤ p.2 by omega) with g | g
      · exact ⟨x, hxs, ht, by omega, v2⟩
      · exact h.back p hpm v v1 g
  · intro q _ hq
    rw [List.length_set, hat, if_pos rfl] at hq
    injection hq with hq
    subst hq
    exact ⟨⟨k, x, by omega, hx, rfl⟩, ⟨i', z, by omega, c2, c3⟩⟩
theorem LackI.push (h : LackI s lo hi t o k l) (hs : Sizes s) (hsp : spanB lo hi = true) {x : Nat} (hx : o[k]? = some (x : Int)) (ht : t[x]? = some true) (hxs : x < s.length) (hgt : ∀ p, 0 < l.length → l[l.length - 1]? = some p → p.2 < s.getD x 0 + lo) :
    LackI s lo hi t o (k + 1) (l ++ [(s.getD x 0 + lo, s.getD x 0 + hi)]) := by
  obtain ⟨s1, s2, s3⟩ := spanB_iff.1 hsp
  have b := hs.at_ x
  refine ⟨?_, by rw [List.length_append]; have := h.len; simp; omega, ?_, ?_, ?_⟩
  · intro j q hj hq
    rcases Nat.lt_trichotomy j l.length with g | g | g
    · rw [List.getElem?_append_left g] at hq
      have hq2 := h.ok j q g hq
      refine ⟨hq2.1, fun r hr hr2 => ?_⟩
      rw [List.getElem?_append_left (by omega)] at hr2
      exact hq2.2 r hr hr2
    · subst g
      rw [List.getElem?_append_right (Nat.le_refl _), Nat.sub_self] at hq
      obtain rfl : (s.getD x 0 + lo, s.getD x 0 + hi) = q := by simpa using hq
      refine ⟨by unfold okS; simp only; omega, fun r hr hr2 => ?_⟩
      rw [List.getElem?_append_left (by omega)] at hr2
      exact hgt r hr hr2
    · rw [List.length_append] at hj
      simp at hj
      omega
  · intro j y hj hy hty
    rcases Nat.lt_or_ge j k with g | g
    · obtain ⟨q, hq, q1, q2⟩ := h.cov j y g hy hty
      exact ⟨q, List.mem_append_left _ hq, q1, q2⟩
    · obtain rfl : j = k := by omega
      rw [hx] at hy
      have : x = y := by injection hy with hy; omega
      subst this
      exact ⟨(s.getD x 0 + lo, s.getD x 0 + hi), List.mem_append_right _ (by simp), Int.le_refl _, Int.le_refl _⟩
  · intro q hq v v1 v2
    rcases List.mem_append.1 hq with hq | hq
    · exact h.back q hq v v1 v2
    · obtain rfl : q = (s.getD x 0 + lo, s.getD x 0 + hi) := by simpa using hq
      exact ⟨x, hxs, ht, v1, v2⟩
  · intro q _ hq
    rw [List.length_append, List.length_singleton, Nat.add_sub_cancel, List.getElem?_append_right (Nat.le_refl _), Nat.sub_self] at hq
    obtain rfl : (s.getD x 0 + lo, s.getD x 0 + hi) = q := by simpa using hq
    exact ⟨⟨k, x, by omega, hx, rfl⟩, ⟨k, x, by omega, hx, rfl⟩⟩
end
theorem LackI.shows {s h : List Int} {lo hi : Int} {n : Nat} {o q : List Int} {t : List Bool} {l : List (Int × Int)} (hi' : LackI s lo hi t q s.length l) (ho : Order s q) (hsp : spanB lo hi = true) (l1 : s.length ≤ 64) (hu : Upto (fitP s h lo hi) h.length s.length o n) (ht : Stuck (fitP s h lo hi) h.length s.length o t) :
    spansOK l ∧ showsV s h lo hi l = (s.length : Int) - n := by
  obtain ⟨s1, s2, s3⟩ := spanB_iff.1 hsp
  have hok : spansOK l := ⟨hi'.ok, by have := hi'.len; omega⟩
  have hmx : Mx (fitP s h lo hi) (fun _ => True) (· < h.length) n := hu.mx.congr fun x k => ⟨fun a => ⟨trivial, a.2⟩, fun a => ⟨a.2.2.1, a.2⟩⟩
  have a := shows_le hmx hok
  have b := shows_ge hu ht hok (fun x hx htx => by
    have hm := ho.all x hx
    obtain ⟨i, hi2, e⟩ := List.mem_iff_getElem.1 hm
    exact hi'.cov i x (by rw [ho.len] at hi2; exact hi2) (by rw [List.getElem?_eq_getElem hi2, e]) htx) s2 hi'.back
  exact ⟨hok, by omega⟩
end Go.Proofs.Ytpklcjbdmikbdaa
namespace Go.Proofs.Ytpklcjbdmikbdaa
open Go.RowKit

set_option maxHeartbeats 2000000 in
theorem lacks_no (A B : Option Addr) (c d : Nat) (s h : List Int) (lo hi : Int) (w : World) (rA : RowH w A s.length s) (rB : RowH w B h.length h) (hn : s.length ≤ 1000) (hm : h.length ≤ 1000) (hv : piecesB s h lo hi = false) :
    Calls Try.prog 41 #[.slice A s.length c, .slice B h.length d, .agg #[.int .i64 lo, .int .i64 hi]] w fun e w' => e = .returned (.tuple #[.slice none 0 0, .int .i64 0, .int .i64 1]) ∧ Below w.heap.size w w' := by
  have hb0 : Below w.heap.size w (w.alloc (.cells #[.int .i64 lo, .int .i64 hi] 26)) := (Below.refl _ _).alloc (Nat.le_refl _) _
  have kC := Blk.new w 26 #[.int .i64 lo, .int .i64 hi]
  have M := pieces_any A B c d s h lo hi _ (rA.later hb0).rowI (rB.later hb0).rowI (by omega) (by omega)
  rw [hv] at M
  have HM := Lib.hid M
  clear M hv
  go_enter Try.func41, Try.ntmps41
  go_wp2_with fail
  refine HM.out.mono ?_
  rintro e w2 ⟨rfl, hb2⟩
  have hb3 := hb0.trans (hb2.mono hb0.size)
  clear HM hb0 hb2 kC
  go_wp2_with fail
  go_ret3
  exact ⟨rfl, hb3⟩
/-- What Lacks returns of valid pieces. -/
def LacR (s h : List Int) (lo hi : Int) (w : World) (e : Ending) (w' : World) : Prop :=
  ∃ (v : Value) (l : List (Int × Int)) (left n : Nat), e = .returned (.tuple #[v, .int .i64 (left : Int), .int .i64 0]) ∧ w'.ownsRow w.heap.size 26 2 v l.length (scells l) ∧ spansOK l ∧ showsV s h lo hi l = (left : Int) ∧ (left = 0 → l = []) ∧ Mx (fitP s h lo hi) (fun _ => True) (· < h.length) n ∧ n + left = s.length ∧ Below w.heap.size w w'
set_option maxRecDepth 100000 in
set_option maxHeartbeats 16000000 in
theorem lacks_any (A B : Option Addr) (c d : Nat) (s h : List Int) (lo hi : Int) (w : World) (rA : RowH w A s.length s) (rB : RowH w B h.length h) (hv : piecesB s h lo hi = true) :
    Calls Try.prog 41 #[.slice A s.length c, .slice B h.length d, .agg #[.int .i64 lo, .int .i64 hi]] w (LacR s h lo hi w) := by
  obtain ⟨hs, hh, l1, l2, hsp⟩ := piecesB_iff.1 hv
  obtain ⟨sp1, sp2, sp3⟩ := spanB_iff.1 hsp
  have hb1 : Below w.heap.size w (w.alloc (.cells #[.int .i64 lo, .int .i64 hi] 26)) := (Below.refl _ _).alloc (Nat.le_refl _) _
  have kC := Blk.new w 26 #[.int .i64 lo, .int .i64 hi]
  have M := pieces_any A B c d s h lo hi _ (rA.later hb1).rowI (rB.later hb1).rowI (by omega) (by omega)
  rw [hv] at M
  have HM := Lib.hid M
  have HS := Lib.hid hs
  have HH := Lib.hid hh
  have HSP := Lib.hid hsp
  clear M hv hs hh hsp
  go_enter Try.func41, Try.ntmps41
  go_wp2_with fail
  refine HM.out.mono ?_
  rintro e w2 ⟨rfl, hb2⟩
  have k2 := kC.later hb2
  have hc2 := k2.cell
  have hl2 := k2.lt
  have hb3 := hb1.trans (hb2.mono hb1.size)
  clear HM hb1 hb2 kC
  go_upto_region 4 with fail
  have k3 := Blk.new w2 87 #[.slice A s.length c, .slice B h.length d, .int .i64 lo, .int .i64 hi]
  have hb4 : Below w2.heap.size w2 (w2.alloc (.cells #[.slice A s.length c, .slice B h.length d, .int .i64 lo, .int .i64 hi] 87)) := (Below.refl _ _).alloc (Nat.le_refl _) _
  have hb5 := hb3.trans (hb4.mono hb3.size)
  have j : JobW _ w2.heap.size A B c d s h lo hi := ⟨k3, rA.later hb5, rB.later hb5⟩
  have kC3 := k2.later hb4
  clear hc2 hl2 k2 k3 hb3 hb4
  revert hb5 j kC3
  generalize w2.alloc (.cells #[.slice A s.length c, .slice B h.length d, .int .i64 lo, .int .i64 hi] 87) = w3
  generalize w2.heap.size = J
  intro hb5 j kC3
  have HMo := Lib.hid (most_any w3 j HS.out HH.out l1 (by omega))
  go_wp2_with fail
  refine HMo.out.mono ?_
  rintro e w4 ⟨Q, P, sv, c1, n, o0, rfl, hQ, hP, hU, hq1, hq2, hq3, hb6⟩
  have HU := Lib.hid hU
  have HMx := Lib.hid (show Mx (fitP s h lo hi) (fun _ => True) (· < h.length) n from hU.mx.congr fun x g => ⟨fun ⟨a, b, r⟩ => ⟨trivial, b, r⟩, fun ⟨a, b, r⟩ => ⟨r.1, b, r⟩⟩)
  have hnN : n ≤ s.length := (by obtain ⟨⟨M, m1, m2⟩, _⟩ := HMx.out; have := len_of_sub (b := List.range s.length) m1.one (fun i hi => by obtain ⟨e, he, rfl⟩ := List.mem_map.1 hi; exact List.mem_range.2 (m1.ok e he).2.2.1); rw [List.length_map, List.length_range] at this; omega)
  have hb7 := hb5.trans (hb6.mono hb5.size)
  have j4 := j.later hb6
  have kC4 := kC3.later hb6
  clear HMo hU hb5 hb6 hq1 hq2 hq3 j kC3
  by_cases hns : n = s.length
  · have hnd : ((n : Int) == (s.length : Int)) = true := by simp [hns]
    clear hQ hP j4 kC4
    go_wp2_with fail
    go_ret3
    exact ⟨_, [], 0, n, rfl, World.ownsRow_nil _ _ _ _, ⟨spOK_zero _, by simp⟩, rfl, fun _ => rfl, HMx.out, by omega, hb7⟩
  · have hnd : ((n : Int) == (s.length : Int)) = false := by simp; omega
    have HSt := Lib.hid (stuck_any Q P c1 n sv o0 w4 j4 hQ hP HS.out HH.out l1 l2 HU.out)
    clear hQ hP
    go_wp2_with fail
    refine HSt.out.mono ?_
    rintro e w5 ⟨Tb, tk, rfl, hT, hst, hTN, hb8⟩
    have HST := Lib.hid hst
    have hb9 := hb7.trans (hb8.mono hb7.size)
    have kC5 := kC4.later hb8
    have HRi := Lib.hid (rising_any A s.length c s w5 (rA.later hb9) (by omega))
    clear HSt hst hTN hb7 hb8 kC4 j4
    go_wp2_with fail
    refine HRi.out.mono ?_
    rintro e w6 ⟨Ro, od, rfl, hRoN, hRo, hop, hos, hb10⟩
    have HO := Lib.hid (Order.of hop hos)
    have hb11 := hb9.trans (hb10.mono hb9.size)
    have kC6 := kC5.later hb10
    have hT6 := hT.later hb10
    have rA6 := rA.later hb11
    have htl := HST.out.len
    clear HRi hop hos hRoN hb9 hb10 kC5 hT
    go_wp2_with fail
    go_loopw [13, 15, 16, 17, 42] (fun v _ _ _ i wr => ∃ (k : Nat) (l : List (Int × Int)), k ≤ s.length ∧ i = .int .i64 k ∧ wr.ownsRow w6.heap.size 26 2 v l.length (scells l) ∧ Hid (LackI s lo hi tk od k l) ∧ Below w6.heap.size w6 wr) (fun _ _ _ _ i _ => s.length - (RowKit.intOf i).toNat)
    case atStart => exact ⟨0, [], Nat.zero_le _, rfl, World.ownsRow_nil _ _ _ _, LackI.zero, Below.refl _ _⟩
    case round =>
      obtain ⟨k, l, hk, rfl, hown, HL, hb⟩ := hrel
      by_cases hlt : k < s.length
      · have hd : decide ((k : Int) < (s.length : Int)) = true := decide_eq_true (by omega)
        have hki : (k : Int) < (s.length : Int) := by omega
        have hol : k < od.length := by have := HO.out.len; omega
        obtain ⟨v, hvx⟩ : ∃ v, od[k]? = some v := ⟨_, List.getElem?_eq_getElem hol⟩
        obtain ⟨v0, v1⟩ := HO.out.at_ k v hvx
        obtain ⟨x, rfl⟩ := Int.eq_ofNat_of_zero_le v0
        have hxs : x < s.length := by omega
        have HX := Lib.hid hvx
        have hRo1 := hRo.later hb
        have hT1 := hT6.later hb
        have cR := hRo1.at_ hvx
        have lR := hRo1.lt
        obtain ⟨bt, hbt⟩ : ∃ b, tk[x]? = some b := ⟨_, List.getElem?_eq_getElem (by omega)⟩
        have HBT := Lib.hid hbt
        have cT := hT1.at_ hbt
        have lT := hT1.lt
        clear hvx hbt v0 hol
        cases bt with
        | false =>
          have HL2 : Hid (LackI s lo hi tk od (k + 1) l) := HL.out.skip HX.out (by rw [HBT.out]; intro e; cases e)
          clear HL
          go_wp2_with fail
          go_roundw
          case rel => exact ⟨k + 1, l, by omega, by go_num, hown, HL2, hb⟩
          case measure => simp [RowKit.intOf]; omega
        | true =>
          obtain ⟨ga, rfl, hga, hac⟩ := (rA6.later hb).at_ hxs
          have bx := HS.out.at_ x
          have kC7 := kC6.later hb
          have cC := kC7.cell
          have lC := kC7.lt
          have HSV : Hid (s.getD x 0 = s.getD x 0) := rfl
          obtain ⟨xv, hxv⟩ : ∃ xv, xv = s.getD x 0 := ⟨_, rfl⟩
          rw [← hxv] at hac bx
          have HXV := Lib.hid hxv
          obtain ⟨bx1, bx2⟩ := bx
          have hxi : (x : Int) < (s.length : Int) := by omega
          clear hxv HSV
          obtain ⟨A', c', rfl⟩ := own_slice hown
          have kS := (Blk.new wr 26 #[.int .i64 (xv + lo), .int .i64 (xv + hi)]).drew
          have hbn : Below wr.heap.size wr (wr.alloc (.cells #[.int .i64 (xv + lo), .int .i64 (xv + hi)] 26)).drew := ((Below.refl _ _).alloc (Nat.le_refl _) _).drew
          have hown7 := own_later hown hbn
          have hb7 := hb.trans (hbn.mono hb.size)
          clear hown
          go_upto_region 13 with fail
          go_region
          clear cC lC hac cT lT cR lR hRo1 hT1 kC7 hb hbn
          revert kS hown7 hb7
          generalize (wr.alloc (.cells #[.int .i64 (xv + lo), .int .i64 (xv + hi)] 26)).drew = w7
          generalize wr.heap.size = SB
          intro kS hown hb
          have cS := kS.cell
          have lS := kS.lt
          have hLk := HL.out.len
          have hll : l.length ≤ 1000 := by omega
          rcases Nat.eq_zero_or_pos l.length with h0 | h0
          · have d0 : decide ((l.length : Int) > 0) = false := decide_eq_false (by omega)
            have d0' : decide (0 < l.length) = false := decide_eq_false (by omega)
            have H0 := Lib.hid h0
            clear h0
            go_wp2_with fail
            go_region
            replace kS := kS.drew
            replace hown := own_later hown (Below.refl w7.heap.size w7).drew
            replace hb := hb.drew
            clear cS lS
            have cS := kS.cell
            have lS := kS.lt
            have HB8 : Hid (Below w6.heap.size w6 (w7.drew.alloc (.cells #[.int .i64 (xv + lo), .int .i64 (xv + hi)] 26))) := hb.alloc hb.size _
            have HO8 : Hid ((w7.drew.alloc (.cells #[.int .i64 (xv + lo), .int .i64 (xv + hi)] 26)).ownsRow w6.heap.size 26 2 (.slice A' l.length c') l.length (scells l)) := hown.alloc _
            have HSRC : Hid (SpansA (w7.drew.alloc (.cells #[.int .i64 (xv + lo), .int .i64 (xv + hi)] 26)) (some ⟨w7.drew.heap.size, 0, none⟩) 1 [(xv + lo, xv + hi)]) := by
              have kn := Blk.new w7.drew 26 #[.int .i64 (xv + lo), .int .i64 (xv + hi)]
              refine ⟨rfl, fun _ => ⟨_, rfl, kn.lt, fun j q hq => ?_⟩⟩
              match j, hq with
              | 0, hq =>
                obtain rfl : (xv + lo, xv + hi) = q := by simpa using hq
                exact ⟨kn.cell 0, kn.cell 1⟩
            have push : ∀ v w9, w9.ownsRow w6.heap.size 26 2 v (l.length + 1) (scells l ++ scells [(xv + lo, xv + hi)]) → (w7.drew.alloc (.cells #[.int .i64 (xv + lo), .int .i64 (xv + hi)] 26)).grownBy w9 (Value.slice A' l.length c').ownBlock →
                (∀ p, 0 < l.length → l[l.length - 1]? = some p → p.2 < xv + lo) → ∃ l', w9.ownsRow w6.heap.size 26 2 v l'.length (scells l') ∧ LackI s lo hi tk od (k + 1) l' ∧ Below w6.heap.size w6 w9 := fun v w9 ho hg hgt => by
              refine ⟨l ++ [(xv + lo, xv + hi)], by rw [List.length_append, scells_append]; exact ho, ?_, HB8.out.grown hg HB8.out.size (fun q hq => (World.ownsRow.lt HO8.out q hq).1)⟩
              have := HL.out.push HS.out HSP.out HX.out HBT.out hxs (fun p h0 hp => by rw [← HXV.out]; exact hgt p h0 hp)
              rwa [← HXV.out] at this
            have HPUSH := Lib.hid push
            clear push hown
            go_wp2_with (at_builtin; refine app_spans _ rfl (.tmp 88) (.tmp 90) rfl w6.heap.size _ l.length l rfl HO8.out (some ⟨w7.drew.heap.size, 0, none⟩) 1 1 [(xv + lo, xv + hi)] rfl HSRC.out (by omega) HB8.out.size ?_)
            all_goals
              intro v9 w9 hown9 hgr9
              obtain ⟨l', g1, g2, g3⟩ := HPUSH.out v9 w9 hown9 hgr9 (fun p h1 _ => by have := H0.out; omega)
              have HG := Lib.hid (And.intro g1 (And.intro g2 g3))
              clear g1 g2 g3 hown9 hgr9 cS lS
              go_wp2_with fail
              go_roundw
              case rel => exact ⟨k + 1, l', by omega, by go_num, HG.out.1, HG.out.2.1, HG.out.2.2⟩
              case measure => simp [RowKit.intOf]; omega
          · have d0 : decide ((l.length : Int) > 0) = true := decide_eq_true (by omega)
            have d0' : decide (0 < l.length) = true := decide_eq_true (by omega)
            obtain ⟨g, cap, e1, hg1, hg2⟩ := hown.form h0
            injection e1 with e1 _ e3
            subst e1 e3
            obtain ⟨m, hm⟩ : ∃ m, l.length - 1 = m := ⟨_, rfl⟩
            have hmi : (l.length : Int) - 1 = (m : Int) := by omega
            have hml : (m : Int) < (l.length : Int) := by omega
            obtain ⟨p, hp⟩ : ∃ p, l[m]? = some p := ⟨_, List.getElem?_eq_getElem (by omega)⟩
            have HMB : Hid (m * 2 + 1 < l.length * 2) := by show _ < _; omega
            have p2 := Lib.hid (scells_at hp).2
            have cL := (hown.cellAt (m * 2 + 1) HMB.out).trans p2.out
            have HP := Lib.hid hp
            have HM := Lib.hid hm
            clear hp hm
            by_cases hle : xv + lo ≤ p.2
            · have d1 : decide (xv + lo ≤ p.2) = true := decide_eq_true hle
              go_wp2_with fail
              go_region
              replace kS := kS.drew
              replace hown := own_later hown (Below.refl w7.heap.size w7).drew
              replace hb := hb.drew
              clear cS lS cL
              have cS := kS.cell
              have lS := kS.lt
              have cL := (hown.cellAt (m * 2 + 1) HMB.out).trans p2.out
              have lL := (World.ownsRow.lt hown g rfl).2
              have fL := own_frozen hown (m * 2 + 1)
              have HO9 := Lib.hid (own_set (i := m * 2 + 1) hown (.int .i64 (xv + hi)))
              have HB9 := Lib.hid (hb.setCell (p := ⟨g, m * 2 + 1, none⟩) hg1 (.int .i64 (xv + hi)))
              have HL2 : Hid (LackI s lo hi tk od (k + 1) (l.set m (p.1, xv + hi))) := by
                have := HL.out.merge HO.out HS.out HSP.out HX.out HBT.out hxs h0 (p := p) (by rw [HM.out]; exact HP.out) (by rw [← HXV.out]; exact hle)
                rwa [← HXV.out, HM.out] at this
              have HE := Lib.hid (scells_set (xv + hi) HP.out)
              clear HL hown hb
              go_wp2_with fail
              go_roundw
              case rel => exact ⟨k + 1, l.set m (p.1, xv + hi), by omega, by go_num, by rw [List.length_set, ← HE.out]; exact HO9.out, HL2, HB9.out⟩
              case measure => simp [RowKit.intOf]; omega
            · have d1 : decide (xv + lo ≤ p.2) = false := decide_eq_false hle
              go_wp2_with fail
              go_region
              replace kS := kS.drew
              replace hown := own_later hown (Below.refl w7.heap.size w7).drew
              replace hb := hb.drew
              clear cS lS cL
              have cS := kS.cell
              have lS := kS.lt
              have HB8 : Hid (Below w6.heap.size w6 (w7.drew.alloc (.cells #[.int .i64 (xv + lo), .int .i64 (xv + hi)] 26))) := hb.alloc hb.size _
              have HO8 : Hid ((w7.drew.alloc (.cells #[.int .i64 (xv + lo), .int .i64 (xv + hi)] 26)).ownsRow w6.heap.size 26 2 (.slice (some ⟨g, 0, none⟩) l.length c') l.length (scells l)) := hown.alloc _
              have HSRC : Hid (SpansA (w7.drew.alloc (.cells #[.int .i64 (xv + lo), .int .i64 (xv + hi)] 26)) (some ⟨w7.drew.heap.size, 0, none⟩) 1 [(xv + lo, xv + hi)]) := by
                have kn := Blk.new w7.drew 26 #[.int .i64 (xv + lo), .int .i64 (xv + hi)]
                refine ⟨rfl, fun _ => ⟨_, rfl, kn.lt, fun j q hq => ?_⟩⟩
                match j, hq with
                | 0, hq =>
                  obtain rfl : (xv + lo, xv + hi) = q := by simpa using hq
                  exact ⟨kn.cell 0, kn.cell 1⟩
              have push : ∀ v w9, w9.ownsRow w6.heap.size 26 2 v (l.length + 1) (scells l ++ scells [(xv + lo, xv + hi)]) → (w7.drew.alloc (.cells #[.int .i64 (xv + lo), .int .i64 (xv + hi)] 26)).grownBy w9 (Value.slice (some ⟨g, 0, none⟩) l.length c').ownBlock →
                  (∀ p, 0 < l.length → l[l.length - 1]? = some p → p.2 < xv + lo) → ∃ l', w9.ownsRow w6.heap.size 26 2 v l'.length (scells l') ∧ LackI s lo hi tk od (k + 1) l' ∧ Below w6.heap.size w6 w9 := fun v w9 ho hg hgt => by
                refine ⟨l ++ [(xv + lo, xv + hi)], by rw [List.length_append, scells_append]; exact ho, ?_, HB8.out.grown hg HB8.out.size (fun q hq => (World.ownsRow.lt HO8.out q hq).1)⟩
                have := HL.out.push HS.out HSP.out HX.out HBT.out hxs (fun p h0 hp => by rw [← HXV.out]; exact hgt p h0 hp)
                rwa [← HXV.out] at this
              have HPUSH := Lib.hid push
              clear push hown
              go_wp2_with (at_builtin; refine app_spans _ rfl (.tmp 88) (.tmp 90) rfl w6.heap.size _ l.length l rfl HO8.out (some ⟨w7.drew.heap.size, 0, none⟩) 1 1 [(xv + lo, xv + hi)] rfl HSRC.out (by omega) HB8.out.size ?_)
              all_goals
                intro v9 w9 hown9 hgr9
                obtain ⟨l', g1, g2, g3⟩ := HPUSH.out v9 w9 hown9 hgr9 (fun p' _ hp' => by rw [HM.out, HP.out] at hp'; cases hp'; omega)
                have HG := Lib.hid (And.intro g1 (And.intro g2 g3))
                clear g1 g2 g3 hown9 hgr9 cS lS
                go_wp2_with fail
                go_roundw
                case rel => exact ⟨k + 1, l', by omega, by go_num, HG.out.1, HG.out.2.1, HG.out.2.2⟩
                case measure => simp [RowKit.intOf]; omega
      · obtain rfl : k = s.length := by omega
        have hd : decide ((s.length : Int) < (s.length : Int)) = false := decide_eq_false (by omega)
        have hsh := HL.out.shows HO.out HSP.out l1 HU.out HST.out
        have hleft : (s.length : Int) - (n : Int) = ((s.length - n : Nat) : Int) := by omega
        have HSH := Lib.hid hsh
        have HLF := Lib.hid hleft
        have hbf := hb11.trans (hb.mono hb11.size)
        have HOW := Lib.hid (World.ownsRow.mono hown hb11.size)
        obtain ⟨lf, hlf⟩ : ∃ lf, lf = s.length - n := ⟨_, rfl⟩
        rw [← hlf] at hleft
        have HLE := Lib.hid hlf
        clear hsh hown HL hlf
        go_wp2_with fail
        go_ret3
        refine ⟨_, l, lf, n, rfl, HOW.out, HSH.out.1, ?_, fun e => ?_, HMx.out, ?_, hbf⟩
        · have := HSH.out.2; have := HLE.out; omega
        · have := HLE.out; omega
        · have := HLE.out; omega
end Go.Proofs.Ytpklcjbdmikbdaa
namespace Go.Proofs.Ytpklcjbdmikbdaa
open Go.RowKit

/-- What the search leaves. -/
def RFndR (F : Nat → Nat → Prop) (P S m c1 c2 : Nat) (o : List Int) (t : List Bool) (x : Nat) (w : World) (e : Ending) (w' : World) : Prop :=
  ∃ (b : Bool) (q : List Int) (u : List Bool), e = .returned (.tuple #[.slice (some ⟨P, 0, none⟩) m c1, .slice (some ⟨S, 0, none⟩) m c2, .bool b]) ∧ RowB w' P q ∧ RowO w' S u ∧ u.length = t.length ∧ Only (two P S) w w' ∧ (b = true → Grew F (unseen t) o x q) ∧ (b = false → q = o ∧ Shut F o x t u)
/-- A slice that reads as a list of integers and lies somewhere in a block. -/
def RowQ (w : World) (A : Option Addr) (n : Nat) (l : List Int) : Prop :=
  l.length = n ∧ (0 < n → ∃ g q, A = some ⟨g, q, none⟩ ∧ g < w.heap.size ∧ ∀ (k : Nat) (v : Int), l[k]? = some v → w.cell? ⟨g, q + k, none⟩ = some (.int .i64 v))
section
variable {w w' : World} {A : Option Addr} {n : Nat} {l : List Int}
theorem RowQ.later (h : RowQ w A n l) (hb : Below w.heap.size w w') : RowQ w' A n l :=
  ⟨h.1, fun hn => by
    obtain ⟨g, q, e, hg, hc⟩ := h.2 hn
    exact ⟨g, q, e, Nat.lt_of_lt_of_le hg hb.size, fun k v hk => (hb.cell (p := ⟨g, q + k, none⟩) hg).trans (hc k v hk)⟩⟩
theorem RowQ.at_ {k : Nat} (h : RowQ w A n l) (hk : k < n) : ∃ g q, A = some ⟨g, q, none⟩ ∧ g < w.heap.size ∧ w.cell? ⟨g, q + k, none⟩ = some (.int .i64 (l.getD k 0)) := by
  obtain ⟨g, q, e, hg, hc⟩ := h.2 (by omega)
  have hl : k < l.length := by have := h.1; omega
  refine ⟨g, q, e, hg, hc k _ ?_⟩
  rw [List.getD_eq_getElem?_getD, List.getElem?_eq_getElem hl]
  rfl
theorem RowH.rowQ (h : RowH w A n l) : RowQ w A n l :=
  ⟨h.1, fun hn => by
    obtain ⟨g, e, hg, hc⟩ := h.2 hn
    exact ⟨g, 0, e, hg, fun k v hk => by rw [Nat.zero_add]; exact hc k v hk⟩⟩
theorem RowQ.lt (r : RowQ w A n l) {p : Addr} (hn : 0 < n) (e : A = some p) : p.block < w.heap.size := by
  obtain ⟨g', q', e', hg, _⟩ := r.2 hn
  rw [e] at e'
  injection e' with e'
  rw [e']
  exact hg
theorem Only.rowQ {T : Nat → Prop} (h : Only T w w') (hr : RowQ w A n l) (hA : ∀ p, 0 < n → A = some p → ¬ T p.block) : RowQ w' A n l :=
  ⟨hr.1, fun hn => by
    obtain ⟨g, q, e, hg, hc⟩ := hr.2 hn
    refine ⟨g, q, e, Nat.lt_of_lt_of_le hg h.size, fun k v hk => ?_⟩
    have hbk := h.block g hg (hA _ hn e)
    have h0 := hc k v hk
    simp only [World.cell?] at h0 ⊢
    rw [hbk]
    exact h0⟩
end
set_option maxRecDepth 100000 in
set_option maxHeartbeats 16000000 in
theorem rfind_any {A B : Option Addr} {ca cb : Nat} {s h : List Int} {lo hi : Int} (hs : Sizes s) (hh : Sizes h) (l2 : h.length ≤ 1000) (P S c1 c2 : Nat) (hPS : P ≠ S)
    (hA : ∀ p, 0 < s.length → A = some p → ¬ two P S p.block) (hB : ∀ p, 0 < h.length → B = some p → ¬ two P S p.block) :
    ∀ (d : Nat) (t : List Bool) (o : List Int) (x : Nat) (w : World), dark t = d → RowQ w A s.length s → RowQ w B h.length h →
      RowB w P o → RowO w S t → o.length = h.length → t.length = h.length → Fine (fitP s h lo hi) (unseen t) o → (∀ k, unseen t k → o[k]? ≠ some (x : Int)) → x < s.length →
      Calls Try.prog 67 #[.slice A s.length ca, .slice B h.length cb, .agg #[.int .i64 lo, .int .i64 hi], .int .i64 (x : Int), .slice (some ⟨P, 0, none⟩) h.length c1, .slice (some ⟨S, 0, none⟩) h.length c2] w (RFndR (fitP s h lo hi) P S h.length c1 c2 o t x w) := by
  intro d
  induction d using Nat.strongRecOn with
  | ind d ih =>
    intro t o x w hd rA rB hP hS lo1 lt1 hf hx hxs
    have hb0 : Below w.heap.size w (w.alloc (.cells #[.int .i64 lo, .int .i64 hi] 26)) := (Below.refl _ _).alloc (Nat.le_refl _) _
    have kC := Blk.new w 26 #[.int .i64 lo, .int .i64 hi]
    have rA := rA.later hb0
    have rB := rB.later hb0
    have hPC := hP.lt
    have hSC := hS.lt
    have hP := hP.later hb0
    have hS := hS.later hb0
    have hon0 : Only (two P S) w (w.alloc (.cells #[.int .i64 lo, .int .i64 hi] 26)) := Only.of_below hb0
    have HX := Lib.hid hx
    have HF0 := Lib.hid hf
    clear hb0 hx hf
    go_enter Try.func67, Try.ntmps67
    go_upto_region 1 with fail
    revert kC rA rB hP hS hon0 hPC hSC
    generalize w.alloc (.cells #[.int .i64 lo, .int .i64 hi] 26) = w1
    generalize w.heap.size = C
    intro kC rA rB hPC hSC hP hS hon0
    have hCT : ¬ two P S C := by unfold two; omega
    go_wp2_with fail
    go_loopw [4, 5, 15, 16] (fun vo vs i _ wr => ∃ (k : Nat) (u : List Bool), k ≤ h.length ∧ vo = .slice (some ⟨P, 0, none⟩) h.length c1 ∧ vs = .slice (some ⟨S, 0, none⟩) h.length c2 ∧ i = .int .i64 k ∧ RowB wr P o ∧ RowO wr S u ∧ Hid (ShutTo (fitP s h lo hi) o x k t u) ∧ Only (two P S) w1 wr) (fun _ _ i _ _ => h.length - (RowKit.intOf i).toNat)
    case atStart => exact ⟨0, t, Nat.zero_le _, rfl, rfl, rfl, hP, hS, ShutTo.first _ _ _ _, Only.refl _ _⟩
    case round =>
      obtain ⟨k, u, hk, rfl, rfl, rfl, hP1, hS1, hsh, hon⟩ := hrel
      have rA1 := hon.rowQ rA hA
      have rB1 := hon.rowQ rB hB
      have kC1 := hon.blk kC hCT
      clear hP hS
      by_cases hlt : k < h.length
      · have hut : k < u.length := by have := hsh.out.len; omega
        have hlS := hS1.lt
        have hlP := hP1.lt
        obtain ⟨b, hb⟩ : ∃ b, u[k]? = some b := ⟨_, List.getElem?_eq_getElem hut⟩
        have HB := Lib.hid hb
        have hcS := hS1.at_ hb
        have cC := kC1.cell
        have lC := kC1.lt
        obtain ⟨gs, qs, rfl, has, hcs⟩ := rA1.at_ hxs
        obtain ⟨gh, qh, rfl, hah, hch⟩ := rB1.at_ hlt
        have b1 := hs.at_ x
        have b2 := hh.at_ k
        have hbt : decide ((k : Int) < (h.length : Int)) = true := by simp; omega
        have hki : (k : Int) < (h.length : Int) := by omega
        have hxi : (x : Int) < (s.length : Int) := by omega
        have HFB := Lib.hid (fitB_iff (s := s) (h := h) (lo := lo) (hi := hi) (x := x) (k := k) hxs hlt)
        have hfd : fitB s h lo hi x k = (decide (lo ≤ h.getD k 0 - s.getD x 0) && decide (h.getD k 0 - s.getD x 0 ≤ hi)) := rfl
        have HM := fun w => rin_any (h.getD k 0 - s.getD x 0) lo hi w
        rw [← hfd] at HM
        obtain ⟨fb, hfb⟩ : ∃ b, b = fitB s h lo hi x k := ⟨_, rfl⟩
        rw [← hfb] at HM HFB
        have HM' := Lib.hid HM
        clear HM hfd hfb hb
        generalize h.getD k 0 = hv at *
        generalize s.getD x 0 = sv at *
        have hxl := later_cell (w := wr)
        cases fb with
        | false =>
          have HS2 : Hid (ShutTo (fitP s h lo hi) o x (k + 1) t u) := hsh.out.skip fun hh => by have := HFB.out.2 hh; cases this
          clear hsh
          go_wp2_with fail
          refine wp_region_later (by kernel_rfl) (by kernel_rfl) ?_
          repeat (go_big_quiet_step ((go_at_call 60; exact later_same (HM'.out _))))
          refine wpQuiet_nil ?_
          rintro w2 ⟨⟨_, hb2⟩, rfl⟩
          clear hxl hcs hch hcS cC lC
          have hP2 := hP1.later hb2
          have hS2 := hS1.later hb2
          have hon2 := hon.below hb2
          clear hP1 hS1 hon hb2 rA1 rB1 kC1
          go_wp2_with fail
          go_roundw
          case rel => exact ⟨k + 1, u, by omega, rfl, rfl, by go_num, hP2, hS2, HS2, hon2⟩
          case measure => simp [RowKit.intOf]; omega
        | true =>
          have hF := Lib.hid (HFB.out.1 rfl)
          cases b with
          | true =>
            have HS2 : Hid (ShutTo (fitP s h lo hi) o x (k + 1) t u) := hsh.out.skip fun _ => HB.out
            clear hsh
            go_wp2_with fail
            refine wp_region_later (by kernel_rfl) (by kernel_rfl) ?_
            repeat (go_big_quiet_step ((go_at_call 60; exact later_same (HM'.out _))))
            refine wpQuiet_nil ?_
            rintro w2 ⟨⟨_, hb2⟩, rfl⟩
            clear hxl hcs hch hcS cC lC
            have hP2 := hP1.later hb2
            have hS2 := hS1.later hb2
            have hon2 := hon.below hb2
            clear hP1 hS1 hon hb2 rA1 rB1 kC1
            go_wp2_with fail
            go_roundw
            case rel => exact ⟨k + 1, u, by omega, rfl, rfl, by go_num, hP2, hS2, HS2, hon2⟩
            case measure => simp [RowKit.intOf]; omega
          | false =>
            have HUS := Lib.hid (unseen_sub hsh.out.len hsh.out.more)
            have HTK := Lib.hid (HUS.out k HB.out)
            obtain ⟨v, hv2⟩ : ∃ v, o[k]? = some v := ⟨_, List.getElem?_eq_getElem (by omega)⟩
            have HV := Lib.hid hv2
            clear hv2
            go_wp2_with fail
            refine wp_region_later (by kernel_rfl) (by kernel_rfl) ?_
            repeat (go_big_quiet_step ((go_at_call 60; exact later_same (HM'.out _))))
            refine wpQuiet_nil ?_
            rintro w2 ⟨⟨_, hb2⟩, rfl⟩
            clear hxl hcs hch hcS cC lC hlS hlP
            have hP2 := hP1.later hb2
            have hS2 := hS1.later hb2
            have hon2 := hon.below hb2
            have rA2 := rA1.later hb2
            have rB2 := rB1.later hb2
            have kC2 := kC1.later hb2
            clear hP1 hS1 hon rA1 rB1 kC1
            have hcS := hS2.at_ HB.out
            have hfS := hS2.frozen k
            have hlS2 := hS2.lt
            go_upto_region 6 with fail
            have hP3 := hP2.far (p := ⟨S, k, none⟩) hPS (.bool true)
            have hS3 := hS2.set_ k true
            have kC3 := kC2.far (p := ⟨S, k, none⟩) (fun e => hCT (.inr e)) (.bool true)
            have hon3 := hon2.setCell (p := ⟨S, k, none⟩) (.inl (.inr rfl)) (.bool true)
            have honX : Only (two P S) w2 (w2.setCell ⟨S, k, none⟩ (.bool true)) := (Only.refl _ w2).setCell (p := ⟨S, k, none⟩) (.inl (.inr rfl)) (.bool true)
            have rA3 := honX.rowQ rA2 hA
            have rB3 := honX.rowQ rB2 hB
            clear hcS hfS hlS2 hP2 hS2 kC2 hon2 rA2 rB2 honX
            revert hP3 hS3 kC3 hon3 rA3 rB3
            generalize w2.setCell ⟨S, k, none⟩ (.bool true) = w3
            clear hb2
            intro hP3 hS3 kC3 hon3 rA3 rB3
            have hcP := hP3.at_ HV.out
            have hfP := hP3.frozen k
            have hlP3 := hP3.lt
            by_cases hv0 : v < 0
            · have hvt : decide (v < 0) = true := by simpa using hv0
              have HG := Lib.hid (Grew.here HTK.out hF.out HV.out hv0 HF0.out HX.out)
              have HP4 := Lib.hid (hP3.set_ k (x : Int))
              have HS4 := Lib.hid (hS3.far (p := ⟨P, k, none⟩) (Ne.symm hPS) (.int .i64 (x : Int)))
              have HO4 := Lib.hid (hon0.trans (hon3.setCell (p := ⟨P, k, none⟩) (.inl (.inl rfl)) (.int .i64 (x : Int))))
              clear hP3 hS3 hon3 kC3 rA3 rB3
              go_wp2_with fail
              go_ret3
              exact ⟨true, _, _, rfl, HP4.out, HS4.out, by rw [List.length_set]; exact hsh.out.len, HO4.out, fun _ => HG.out, fun h => (by cases h)⟩
            · have hvt : decide (v < 0) = false := by simpa using hv0
              obtain ⟨y, rfl⟩ := Int.eq_ofNat_of_zero_le (by omega : 0 ≤ v)
              have HIF := Lib.hid (unseen_set hut)
              have hIH := Lib.hid fun V (r1 : RowQ V (some ⟨gs, qs, none⟩) s.length s) (r2 : RowQ V (some ⟨gh, qh, none⟩) h.length h) (r3 : RowB V P o) (r4 : RowO V S (u.set k true)) => ih (dark (u.set k true)) (by
                have hds := dark_set HB.out
                have hdl := dark_le hsh.out.len hsh.out.more
                omega) (u.set k true) o y V rfl r1 r2 r3 r4 lo1 (by rw [List.length_set, hsh.out.len]; exact lt1) (HF0.out.sub fun g hg => HUS.out g ((HIF.out g).1 hg).1)
                (fun g hg hy => ((HIF.out g).1 hg).2 (HF0.out.inj g k y (HUS.out g ((HIF.out g).1 hg).1) HTK.out hy HV.out)) (HF0.out.fit k y HTK.out HV.out).1
              have HD := Lib.hid hd
              clear hd hfP
              go_upto_region 8 with fail
              go_cut [4, 5, 16] from 17 to 74 (fun vo vs vb wx => ∃ (b : Bool) (q : List Int) (u3 : List Bool), vo = .slice (some ⟨P, 0, none⟩) h.length c1 ∧ vs = .slice (some ⟨S, 0, none⟩) h.length c2 ∧ vb = .bool b ∧ RowB wx P q ∧ RowO wx S u3 ∧ u3.length = (u.set k true).length ∧ Only (two P S) w1 wx ∧ q[k]? = some (y : Int) ∧ (b = true → Grew (fitP s h lo hi) (unseen (u.set k true)) o y q) ∧ (b = false → q = o ∧ Shut (fitP s h lo hi) o y (u.set k true) u3))
              case first =>
                have cC := kC3.cell
                have S0 : w3.cell? ⟨P, k, none⟩ = some (.int .i64 (y : Int)) ∧ w3.cell? ⟨C, 0, none⟩ = some (.int .i64 lo) ∧ w3.cell? ⟨C, 1, none⟩ = some (.int .i64 hi) := ⟨hcP, cC 0, cC 1⟩
                refine wp_region_held_drew (S := fun V => V.cell? ⟨P, k, none⟩ = some (.int .i64 (y : Int)) ∧ V.cell? ⟨C, 0, none⟩ = some (.int .i64 lo) ∧ V.cell? ⟨C, 1, none⟩ = some (.int .i64 hi)) (by kernel_rfl) S0 (fun hHeld => ?_)
                refine wpAnyH_take (i := 0) (v := ?_) rfl (by kernel_rfl) (by kernel_rfl) (by kernel_rfl) (fun _ _ _ h => h) (Or.inl ⟨by rfl, ?hy⟩) (by assumption) ?_
                case hy => (intro w hSw; obtain ⟨hc1, hc2, hc3⟩ := hSw; go_simp; try with_reducible rfl)
                refine wpAnyH_take (i := 1) (v := ?_) rfl (by kernel_rfl) (by kernel_rfl) (by kernel_rfl) (fun _ _ _ h => h) (Or.inl ⟨by rfl, ?hy⟩) (by assumption) ?_
                case hy => (intro w hSw; obtain ⟨hc1, hc2, hc3⟩ := hSw; go_simp; try with_reducible rfl)
                refine wpAnyH_take (i := 2) (v := ?_) rfl (by kernel_rfl) (by kernel_rfl) (by kernel_rfl) (fun _ _ _ h => h) (Or.inl ⟨by rfl, ?hy⟩) (by assumption) ?_
                case hy => (intro w hSw; obtain ⟨hc1, hc2, hc3⟩ := hSw; go_simp; try with_reducible rfl)
                refine wpAnyH_take (i := 3) (v := ?_) rfl (by kernel_rfl) (by kernel_rfl) (by kernel_rfl) (fun _ _ _ h => h) (Or.inl ⟨by rfl, ?hy⟩) (by assumption) ?_
                case hy => (intro w hSw; obtain ⟨hc1, hc2, hc3⟩ := hSw; go_simp; try with_reducible rfl)
                refine wpAnyH_take (i := 4) (v := ?_) rfl (by kernel_rfl) (by kernel_rfl) (by kernel_rfl) (fun _ _ _ h => h) (Or.inl ⟨by rfl, ?hy⟩) (by assumption) ?_
                case hy => (intro w hSw; obtain ⟨hc1, hc2, hc3⟩ := hSw; go_simp; try with_reducible rfl)
                refine wpAnyH_take (i := 5) (v := ?_) rfl (by kernel_rfl) (by kernel_rfl) (by kernel_rfl) (fun _ _ _ h => h) (Or.inl ⟨by rfl, ?hy⟩) (by assumption) ?_
                case hy => (intro w hSw; obtain ⟨hc1, hc2, hc3⟩ := hSw; go_simp; try with_reducible rfl)
                refine wpAnyH_take (i := 6) (v := ?_) rfl (by kernel_rfl) (by kernel_rfl) (by kernel_rfl) (fun _ _ _ h => h) (Or.inl ⟨by rfl, ?hy⟩) (by assumption) ?_
                case hy => (intro w hSw; obtain ⟨hc1, hc2, hc3⟩ := hSw; go_simp; try with_reducible rfl)
                refine wpAnyH_take (i := 7) (v := ?_) rfl (by kernel_rfl) (by kernel_rfl) (by kernel_rfl) (fun _ _ _ h => h) (Or.inl ⟨by rfl, ?hy⟩) (by assumption) ?_
                case hy => (intro w hSw; obtain ⟨hc1, hc2, hc3⟩ := hSw; go_simp; try with_reducible rfl)
                refine wpAnyH_take (i := 8) (v := ?_) rfl (by kernel_rfl) (by kernel_rfl) (by kernel_rfl) (fun _ _ _ h => h) (Or.inl ⟨by rfl, ?hy⟩) (by assumption) ?_
                case hy => (intro w hSw; obtain ⟨hc1, hc2, hc3⟩ := hSw; go_simp; try with_reducible rfl)
                clear cC S0 hcP hHeld
                simp only [Act.put, List.setIfInBounds_toArray]
                replace hP3 : RowB w3.drew P o := hP3
                replace hS3 : RowO w3.drew S (u.set k true) := hS3
                replace hon3 := hon3.drew
                replace kC3 := kC3.drew
                replace rA3 : RowQ w3.drew (some ⟨gs, qs, none⟩) s.length s := rA3
                replace rB3 : RowQ w3.drew (some ⟨gh, qh, none⟩) h.length h := rB3
                revert hP3 hS3 hon3 kC3 rA3 rB3
                generalize w3.drew = w4
                intro hP3 hS3 hon3 kC3 rA3 rB3
                refine wpAnyH_ready (rs := [9]) (by kernel_rfl) (by simp) (AllReadyH.cons rfl (fun K hK => ?_) AllReadyH.nil)
                go_simp
                refine (hIH.out w4 rA3 rB3 hP3 hS3).mono ?_
                rintro e w5 ⟨b3, q, u3, rfl, hP5, hS5, hl5, hon5, hy5, hn5⟩
                have HQK : Hid (q[k]? = some (y : Int)) := by
                  cases b3 with
                  | true => exact ((hy5 rfl).same k (fun hh => ((HIF.out k).1 hh).2 rfl)).trans HV.out
                  | false => rw [(hn5 rfl).1]; exact HV.out
                have cP5 := hP5.at_ HQK.out
                have kC5 := hon5.blk kC3 hCT
                have cC5 := kC5.cell
                refine hK.out _ _ ⟨cP5, cC5 0, cC5 1⟩ (fun _ => ?_)
                clear hK K cP5 cC5 kC5
                refine wpAnyH_take (i := 10) (v := ?_) rfl (by kernel_rfl) (by kernel_rfl) (by kernel_rfl) (fun _ _ _ h => h) (Or.inl ⟨by rfl, ?hy⟩) (by assumption) ?_
                case hy => (intro w hSw; obtain ⟨hc1, hc2, hc3⟩ := hSw; go_simp; try with_reducible rfl)
                refine wpAnyH_take (i := 11) (v := ?_) rfl (by kernel_rfl) (by kernel_rfl) (by kernel_rfl) (fun _ _ _ h => h) (Or.inl ⟨by rfl, ?hy⟩) (by assumption) ?_
                case hy => (intro w hSw; obtain ⟨hc1, hc2, hc3⟩ := hSw; go_simp; try with_reducible rfl)
                refine wpAnyH_take (i := 12) (v := ?_) rfl (by kernel_rfl) (by kernel_rfl) (by kernel_rfl) (fun _ _ _ h => h) (Or.inl ⟨by rfl, ?hy⟩) (by assumption) ?_
                case hy => (intro w hSw; obtain ⟨hc1, hc2, hc3⟩ := hSw; go_simp; try with_reducible rfl)
                refine wpAnyH_take (i := 13) (v := ?_) rfl (by kernel_rfl) (by kernel_rfl) (by kernel_rfl) (fun _ _ _ h => h) (Or.inl ⟨by rfl, ?hy⟩) (by assumption) ?_
                case hy => (intro w hSw; obtain ⟨hc1, hc2, hc3⟩ := hSw; go_simp; try with_reducible rfl)
                refine wpAnyH_take (i := 14) (v := ?_) rfl (by kernel_rfl) (by kernel_rfl) (by kernel_rfl) (fun _ _ _ h => h) (Or.inl ⟨by rfl, ?hy⟩) (by assumption) ?_
                case hy => (intro w hSw; obtain ⟨hc1, hc2, hc3⟩ := hSw; go_simp; try with_reducible rfl)
                refine wpAnyH_take (i := 15) (v := ?_) rfl (by kernel_rfl) (by kernel_rfl) (by kernel_rfl) (fun _ _ _ h => h) (Or.inl ⟨by rfl, ?hy⟩) (by assumption) ?_
                case hy => (intro w hSw; obtain ⟨hc1, hc2, hc3⟩ := hSw; go_simp; try with_reducible rfl)
                refine wpAnyH_take (i := 16) (v := ?_) rfl (by kernel_rfl) (by kernel_rfl) (by kernel_rfl) (fun _ _ _ h => h) (Or.inl ⟨by rfl, ?hy⟩) (by assumption) ?_
                case hy => (intro w hSw; obtain ⟨hc1, hc2, hc3⟩ := hSw; go_simp; try with_reducible rfl)
                refine wpAnyH_done (by kernel_rfl) ?_ _
                go_wp2_with fail
                go_meet
                case rel => exact ⟨b3, q, u3, rfl, rfl, rfl, hP5, hS5, hl5, hon3.trans hon5, HQK.out, hy5, hn5⟩
              case rest =>
                obtain ⟨b3, q, u3, rfl, rfl, rfl, hP4, hS4, hl3, hon5, hqk, hy3, hn3⟩ := hcut
                clear hcP hlP3 hP3 hS3 kC3 hon3 rA3 rB3 hIH
                cases b3 with
                | true =>
                  have HG := Lib.hid (Grew.wide HUS.out HF0.out HX.out (Grew.on (U := unseen u) HB.out hF.out HV.out (HF0.out.sub HUS.out) (fun g hg => HX.out g (HUS.out g hg)) ((hy3 rfl).iff HIF.out)))
                  have hlP5 := hP4.lt
                  have hcP5 := hP4.at_ hqk
                  have hfP5 := hP4.frozen k
                  have HP5 := Lib.hid (hP4.set_ k (x : Int))
                  have HS5 := Lib.hid (hS4.far (p := ⟨P, k, none⟩) (Ne.symm hPS) (.int .i64 (x : Int)))
                  have HO5 := Lib.hid (hon0.trans (hon5.setCell (p := ⟨P, k, none⟩) (.inl (.inl rfl)) (.int .i64 (x : Int))))
                  have HL := Lib.hid hl3
                  clear hP4 hS4 hon5 hy3 hn3 hqk hl3
                  go_wp2_with fail
                  go_ret3
                  exact ⟨true, _, _, rfl, HP5.out, HS5.out, by rw [HL.out, List.length_set]; exact hsh.out.len, HO5.out, fun _ => HG.out, fun h => (by cases h)⟩
                | false =>
                  obtain ⟨rfl, hsh3⟩ := hn3 rfl
                  have HN := Lib.hid (hsh.out.next hut HV.out hsh3)
                  clear hy3 hn3 hl3 hsh3 hqk hsh
                  go_wp2_with fail
                  go_roundw
                  case rel => exact ⟨k + 1, u3, by omega, rfl, rfl, by go_num, hP4, hS4, HN, hon5⟩
                  case measure => simp [RowKit.intOf]; omega
      · obtain rfl : k = h.length := by omega
        have hbt : decide ((h.length : Int) < (h.length : Int)) = false := by simp
        have HO5 := Lib.hid (hon0.trans hon)
        go_wp2_with fail
        go_ret3
        exact ⟨false, o, u, rfl, hP1, hS1, hsh.out.len, HO5.out, fun h => (by cases h), fun _ => ⟨rfl, hsh.out.done fun g hg => hg.2.1⟩⟩
end Go.Proofs.Ytpklcjbdmikbdaa
namespace Go.Proofs.Ytpklcjbdmikbdaa
open Go.RowKit

theorem sapp_ints {ops : Array Oper} {o : Oper} {a : Act} {w : World} {K : Act → World → Prop} {Q : Exit → Act → World → Prop} {E : Prop} (hgd : o.guard = none) (s x : Operand)
    (ho : o.op = .call { callee := .builtin .append, args := #[s, x], argTypes := #[23, 23] }) (base g n c : Nat) (xs : List Int) (hs : a.eval s = .slice (some ⟨g, 0, none⟩) n c) (hown : w.ownsRow base 3 1 (.slice (some ⟨g, 0, none⟩) n c) n (xs.map (Value.int .i64)))
    (ao : Option Addr) (m d : Nat) (l : List Int) (hx : a.eval x = .slice ao m d) (hr : RowI w ao m l) (hn : n + m ≤ 100000) (hbase : base ≤ w.heap.size)
    (h : ∀ g' cap w', w'.ownsRow base 3 1 (.slice (some ⟨g', 0, none⟩) (n + m) cap) (n + m) ((xs ++ l).map (Value.int .i64)) → w.grownBy w' (some g) → K (a.put o.dst (.slice (some ⟨g', 0, none⟩) (n + m) cap)) w') :
    if Region.wanted o (yielded ops a.tmps) = true then Oper.wp Try.prog o a w K Q else E := by
  obtain ⟨i0, hi, hz0, hz1, hz2⟩ := info_parts info3
  rcases Nat.eq_zero_or_pos m with z | z
  · subst z
    have hl : l = [] := List.eq_nil_of_length_eq_zero hr.1
    subst hl
    have hsrc : Src Try.prog i0.size 23 (.slice ao 0 d) 0 [] w := by
      cases ao with
      | none => exact Src.ofNil w Try.underlying23 d
      | some ad => exact Src.ofSlice w Try.underlying23 ad 0 d [] (by simp) (by simp) (by simp)
    have hle : n ≤ c := by
      rcases hown.2 with ⟨h1, _⟩ | ⟨g', cap, cur, h1, _, _, h2, _⟩
      · simp at h1
      · simp at h1; omega
    have hrun := run_append_nothing (P := Try.prog) w 23 23 o.type 3 i0 Try.underlying23 hi (some ⟨g, 0, none⟩) n c hle _ hsrc
    have hw : Region.wanted o (yielded ops a.tmps) = true := by simp [Region.wanted, hgd]
    rw [if_pos hw]
    unfold Oper.wp
    simp [execOp, ho, resolve, invoke, builtin, hs, hx, hrun, Result.andThen]
    exact h g c w (by simpa using hown) (World.grownBy.refl _ _)
  · obtain ⟨ad, e, _, _⟩ := hr.2 z
    subst e
    refine step_append_lies w hgd s x 23 ho base 3 i0 (.int .i64 0) 1 8 Try.underlying23 hi hz0 hz1 hz2 rfl (by decide) _ n _ hs hown ad m d (l.map (Value.int .i64)) hx (by rw [List.length_map, hr.1]; omega) (rowI_news hr z) (ints_one _) z (by unfold maxLen; omega) (by omega) hbase _ rfl ?_
    intro g' cap w' hown' hgr _ _
    exact h g' cap w' (by rw [List.map_append]; exact hown') hgr
theorem fill_set (m k : Nat) (hk : k < m) : (List.replicate k (-1 : Int) ++ List.replicate (m - k) 0).set k (-1) = List.replicate (k + 1) (-1) ++ List.replicate (m - (k + 1)) 0 := by
  obtain ⟨d, hd⟩ : ∃ d, m - k = d + 1 := ⟨m - k - 1, by omega⟩
  rw [hd, show m - (k + 1) = d by omega, List.set_append_right _ _ (by simp), List.length_replicate, Nat.sub_self, List.replicate_succ, List.set_cons_zero, List.replicate_succ', List.append_assoc]
  rfl
theorem fill_get (m k : Nat) (hk : k < m) : (List.replicate k (-1 : Int) ++ List.replicate (m - k) 0)[k]? = some 0 := by
  rw [List.getElem?_append_right (by simp), List.length_replicate, Nat.sub_self, List.getElem?_replicate, if_pos (by omega)]
/-- The number of pairs that the document tells. -/
def MostN (s h : List Int) (lo hi : Int) (w : World) (e : Ending) (w' : World) : Prop :=
  ∃ n : Nat, e = .returned (.int .i64 (n : Int)) ∧ Mx (fitP s h lo hi) (fun _ => True) (· < h.length) n ∧ n ≤ s.length ∧ Below w.heap.size w w'
set_option maxRecDepth 100000 in
set_option maxHeartbeats 16000000 in
theorem rmost_any {A B : Option Addr} {ca cb : Nat} {s h : List Int} {lo hi : Int} (w : World) (hs : Sizes s) (hh : Sizes h) (l1 : s.length ≤ 1000) (l2 : h.length ≤ 1000) (rA : RowQ w A s.length s) (rB : RowQ w B h.length h) :
    Calls Try.prog 42 #[.slice A s.length ca, .slice B h.length cb, .agg #[.int .i64 lo, .int .i64 hi]] w (MostN s h lo hi w) := by
  have hb0 : Below w.heap.size w (w.alloc (.cells #[.int .i64 lo, .int .i64 hi] 26)) := (Below.refl _ _).alloc (Nat.le_refl _) _
  have kC := Blk.new w 26 #[.int .i64 lo, .int .i64 hi]
  have HS := Lib.hid hs
  have HH := Lib.hid hh
  have hmk := make_ints h.length (by omega)
  have hsz : (w.alloc (.cells #[.int .i64 lo, .int .i64 hi] 26)).heap.size = w.heap.size + 1 := by simp
  have HRA := Lib.hid rA
  have HRB := Lib.hid rB
  clear hs hh
  go_enter Try.func42, Try.ntmps42
  go_upto_region 1 with fail
  revert kC hb0 hsz
  generalize w.alloc (.cells #[.int .i64 lo, .int .i64 hi] 26) = w1
  intro hb0 kC hsz
  have rA := rA.later hb0
  have rB := rB.later hb0
  obtain ⟨C, hCe⟩ : ∃ C, C = w.heap.size := ⟨_, rfl⟩
  rw [← hCe] at kC hsz ⊢
  have HC := Lib.hid hCe
  have HSZ := Lib.hid hsz
  clear hsz
  go_upto_region 2 with fail
  have hP0 : RowB (w1.alloc (.cells (rowc (List.replicate h.length 0)) 3)) w1.heap.size (List.replicate h.length 0) := RowB.of (Blk.new w1 3 _)
  have hb1 : Below w1.heap.size w1 (w1.alloc (.cells (rowc (List.replicate h.length 0)) 3)) := (Below.refl _ _).alloc (Nat.le_refl _) _
  obtain ⟨P0, hPe⟩ : ∃ P, P = w1.heap.size := ⟨_, rfl⟩
  have HP0 := Lib.hid hPe
  rw [← hPe] at hP0 ⊢
  clear hmk hPe hCe
  revert hP0 hb1
  generalize w1.alloc (.cells (rowc (List.replicate h.length 0)) 3) = w2
  intro hb1 hP0
  have rA := rA.later hb1
  have rB := rB.later hb1
  have kC := kC.later hb1
  have hNP : w.heap.size ≤ P0 := by have h1 := HP0.out; have h2 := HC.out; have h3 := HSZ.out; omega
  have hb2 := hb0.trans (hb1.mono hb0.size)
  clear hb0 hb1
  go_wp2_with fail
  go_loopw [8] (fun i wr => ∃ k : Nat, k ≤ h.length ∧ i = .int .i64 k ∧ RowB wr P0 (List.replicate k (-1) ++ List.replicate (h.length - k) 0) ∧ Only (fun g => g = P0) w2 wr) (fun i _ => h.length - (RowKit.intOf i).toNat)
  case atStart => exact ⟨0, Nat.zero_le _, rfl, hP0, Only.refl _ _⟩
  case round =>
    clear hP0
    obtain ⟨k, hk, rfl, hP, hon⟩ := hrel
    by_cases hlt : k < h.length
    · have hd : decide ((k : Int) < (h.length : Int)) = true := decide_eq_true (by omega)
      have hki : (k : Int) < (h.length : Int) := by omega
      have hc := hP.at_ (fill_get h.length k hlt)
      have hf := hP.frozen k
      have hl := hP.lt
      have HP2 : Hid (RowB (wr.setCell ⟨P0, k, none⟩ (.int .i64 (-1))) P0 (List.replicate (k + 1) (-1) ++ List.replicate (h.length - (k + 1)) 0)) := by
        have := hP.set_ k (-1)
        rwa [fill_set h.length k hlt] at this
      have HO2 := Lib.hid (hon.setCell (p := ⟨P0, k, none⟩) (.inl rfl) (.int .i64 (-1)))
      clear hP hon
      go_wp2_with fail
      go_roundw
      case rel => exact ⟨k + 1, by omega, by go_num, HP2.out, HO2.out⟩
      case measure => simp [RowKit.intOf]; omega
    · obtain rfl : k = h.length := by omega
      have hd : decide ((h.length : Int) < (h.length : Int)) = false := decide_eq_false (by omega)
      rw [Nat.sub_self, List.replicate_zero, List.append_nil] at hP
      have rA2 := HRA.out.later (hb2.trans (hon.to_below hb2.size (fun j hj => by subst hj; exact hNP)))
      have rB2 := HRB.out.later (hb2.trans (hon.to_below hb2.size (fun j hj => by subst hj; exact hNP)))
      have kC2 : Blk wr C 26 #[.int .i64 lo, .int .i64 hi] := hon.blk kC (by have h1 := HP0.out; have h2 := HC.out; have h3 := HSZ.out; omega)
      have hb3 : Below w.heap.size w wr := hb2.trans (hon.to_below hb2.size (fun j hj => by subst hj; exact hNP))
      have HU0 : Hid (Upto (fitP s h lo hi) h.length 0 (List.replicate h.length (-1)) 0) := Upto.first _ _
      clear hon kC rA rB hb2
      go_wp2_with fail
      go_loopw [7, 9, 10, 11, 12, 13] (fun vo c i _ _ _ wr => ∃ (k n P cP : Nat) (o : List Int), k ≤ s.length ∧ n ≤ k ∧ i = .int .i64 k ∧ c = .int .i64 n ∧ vo = .slice (some ⟨P, 0, none⟩) h.length cP ∧ RowB wr P o ∧ w.heap.size ≤ P ∧ Hid (Upto (fitP s h lo hi) h.length k o n) ∧ Blk wr C 26 #[.int .i64 lo, .int .i64 hi] ∧ Below w.heap.size w wr) (fun _ _ i _ _ _ _ => s.length - (RowKit.intOf i).toNat)
      case atStart => exact ⟨0, 0, P0, _, _, Nat.zero_le _, Nat.le_refl _, rfl, rfl, rfl, hP, hNP, HU0, kC2, hb3⟩
      case round =>
        clear hP HU0 kC2 hb3 rA2 rB2
        obtain ⟨wq, hwq⟩ : ∃ x, x = wr := ⟨_, rfl⟩
        subst hwq
        obtain ⟨k, n, P, cP, o, hk, hnk, rfl, rfl, rfl, hP, hNPk, HU, kC, hb⟩ := hrel
        by_cases hlt : k < s.length
        · have hd : decide ((k : Int) < (s.length : Int)) = true := decide_eq_true (by omega)
          have hki : (k : Int) < (s.length : Int) := by omega
          have rAq := HRA.out.later hb
          have rBq := HRB.out.later hb
          have hol := HU.out.len
          have HPO : Hid (RowI wq (some ⟨P, 0, none⟩) h.length o) := RowI.of_row hP hol
          have HFN := Lib.hid fun (V : World) (g S c : Nat) (hPS : g ≠ S) (hg : wq.heap.size ≤ g) (hS : wq.heap.size ≤ S) (hbV : Below wq.heap.size wq V) (hPB : RowB V g o) (hrow : RowO V S (List.replicate h.length false)) =>
            rfind_any (ca := ca) (cb := cb) HS.out HH.out l2 g S c h.length hPS (fun p h0 e hT => by have := rAq.lt h0 e; rcases hT with hT | hT <;> omega) (fun p h0 e hT => by have := rBq.lt h0 e; rcases hT with hT | hT <;> omega)
              _ (List.replicate h.length false) o k V rfl (rAq.later hbV) (rBq.later hbV) hPB hrow hol (by simp) (fine_iff HU.out.fine fun g => unseen_rep) (fun g _ hg => by have := HU.out.lt g k hg; omega) hlt
          have hmb := make_bools h.length (by omega)
          have HK1 := Lib.hid (show k + 1 ≤ s.length from hlt)
          have HK2 := Lib.hid (show n + 1 ≤ k + 1 from Nat.succ_le_succ hnk)
          have HK3 := Lib.hid (show n ≤ k + 1 from Nat.le_succ_of_le hnk)
          have HK4 := Lib.hid (show s.length - (k + 1) < s.length - k from by omega)
          clear rAq rBq hol
          go_upto_region 10 with fail
          go_cut [11, 12, 13] from 26 to 50 (fun vn _ vb wx => ∃ (b : Bool) (q : List Int) (P' c' : Nat), vn = .slice (some ⟨P', 0, none⟩) h.length c' ∧ vb = .bool b ∧ RowB wx P' q ∧ wq.heap.size ≤ P' ∧ (b = true → Upto (fitP s h lo hi) h.length (k + 1) q (n + 1)) ∧ (b = false → Upto (fitP s h lo hi) h.length (k + 1) o n) ∧ Below wq.heap.size wq wx)
          case first =>
            have cC := kC.cell
            have lC := kC.lt
            clear hd hki hk hnk hb hP kC
            refine wp_region_held_drew (S := fun V => Below wq.heap.size wq V) (by kernel_rfl) (Below.refl _ _).drew (fun hHeld => ?_)
            refine wpAnyH_take (i := 0) (v := ?_) rfl (by kernel_rfl) (by kernel_rfl) (by kernel_rfl) (fun _ _ _ h => h) (Or.inl ⟨by rfl, ?hy⟩) (by assumption) ?_
            case hy => (intro w hSw; have hcw : ∀ p o, p < wq.heap.size → w.cell? ⟨p, o, none⟩ = wq.cell? ⟨p, o, none⟩ := (fun p o h => hSw.cell (p := ⟨p, o, none⟩) h); clear hSw; go_simp; try with_reducible rfl)
            refine wpAnyH_take (i := 1) (v := ?_) rfl (by kernel_rfl) (by kernel_rfl) (by kernel_rfl) (fun _ _ _ h => h) (Or.inl ⟨by rfl, ?hy⟩) (by assumption) ?_
            case hy => (intro w hSw; have hcw : ∀ p o, p < wq.heap.size → w.cell? ⟨p, o, none⟩ = wq.cell? ⟨p, o, none⟩ := (fun p o h => hSw.cell (p := ⟨p, o, none⟩) h); clear hSw; go_simp; try with_reducible rfl)
            refine wpAnyH_take (i := 2) (v := ?_) rfl (by kernel_rfl) (by kernel_rfl) (by kernel_rfl) (fun _ _ _ h => h) (Or.inl ⟨by rfl, ?hy⟩) (by assumption) ?_
            case hy => (intro w hSw; have hcw : ∀ p o, p < wq.heap.size → w.cell? ⟨p, o, none⟩ = wq.cell? ⟨p, o, none⟩ := (fun p o h => hSw.cell (p := ⟨p, o, none⟩) h); clear hSw; go_simp; try with_reducible rfl)
            refine wpAnyH_take (i := 3) (v := ?_) rfl (by kernel_rfl) (by kernel_rfl) (by kernel_rfl) (fun _ _ _ h => h) (Or.inl ⟨by rfl, ?hy⟩) (by assumption) ?_
            case hy => (intro w hSw; have hcw : ∀ p o, p < wq.heap.size → w.cell? ⟨p, o, none⟩ = wq.cell? ⟨p, o, none⟩ := (fun p o h => hSw.cell (p := ⟨p, o, none⟩) h); clear hSw; go_simp; try with_reducible rfl)
            refine wpAnyH_take (i := 5) (v := ?_) rfl (by kernel_rfl) (by kernel_rfl) (by kernel_rfl) (fun _ _ _ h => h) (Or.inl ⟨by rfl, ?hy⟩) (by assumption) ?_
            case hy => (intro w hSw; have hcw : ∀ p o, p < wq.heap.size → w.cell? ⟨p, o, none⟩ = wq.cell? ⟨p, o, none⟩ := (fun p o h => hSw.cell (p := ⟨p, o, none⟩) h); clear hSw; go_simp; try with_reducible rfl)
            refine wpAnyH_take (i := 7) (v := ?_) rfl (by kernel_rfl) (by kernel_rfl) (by kernel_rfl) (fun _ _ _ h => h) (Or.inl ⟨by rfl, ?hy⟩) (by assumption) ?_
            case hy => (intro w hSw; have hcw : ∀ p o, p < wq.heap.size → w.cell? ⟨p, o, none⟩ = wq.cell? ⟨p, o, none⟩ := (fun p o h => hSw.cell (p := ⟨p, o, none⟩) h); clear hSw; go_simp; try with_reducible rfl)
            refine wpAnyH_take (i := 8) (v := ?_) rfl (by kernel_rfl) (by kernel_rfl) (by kernel_rfl) (fun _ _ _ h => h) (Or.inl ⟨by rfl, ?hy⟩) (by assumption) ?_
            case hy => (intro w hSw; have hcw : ∀ p o, p < wq.heap.size → w.cell? ⟨p, o, none⟩ = wq.cell? ⟨p, o, none⟩ := (fun p o h => hSw.cell (p := ⟨p, o, none⟩) h); clear hSw; go_simp; try with_reducible rfl)
            simp only [Act.put, List.setIfInBounds_toArray]
            clear cC lC
            have hb0 := hHeld
            clear hHeld
            revert hb0
            generalize wq.drew = V0
            intro hb0
            refine wpAnyH_ready (rs := [4, 9]) (by kernel_rfl) (by simp) (AllReadyH.cons rfl (fun K hK => ?q10) (AllReadyH.cons rfl (fun K hK => ?q11) AllReadyH.nil))
            case q10 =>
              go_simp
              have hb2 : Below wq.heap.size wq (V0.alloc (.cells #[] 3)) := hb0.trans (((Below.refl _ _).alloc (Nat.le_refl _) _).mono hb0.size)
              have hown2 : (V0.alloc (.cells #[] 3)).ownsRow wq.heap.size 3 1 (.slice (some ⟨V0.heap.size, 0, none⟩) 0 0) 0 (([] : List Int).map (Value.int .i64)) := World.ownsRow_made (base := wq.heap.size) (e := 3) (size := 1) V0 #[] 0 hb0.size (by unfold maxLen; omega) (by simp)
              refine hK.out _ _ hb2 (fun _ => ?_)
              clear hK K
              obtain ⟨g2, hge⟩ : ∃ b, b = V0.heap.size := ⟨_, rfl⟩
              rw [← hge] at hown2 ⊢
              clear hge hb0
              revert hb2 hown2
              generalize V0.alloc (.cells #[] 3) = V2
              intro hb2 hown2
              refine wpAnyH_ready (rs := [6, 9]) (by kernel_rfl) (by simp) (AllReadyH.cons rfl (fun K hK => ?q30) (AllReadyH.cons rfl (fun K hK => ?q31) AllReadyH.nil))
              case q30 =>
                refine sapp_ints rfl (.tmp 37) (.tmp 38) rfl wq.heap.size g2 0 0 [] rfl hown2 (some ⟨P, 0, none⟩) h.length cP o rfl (HPO.out.later hb2) (by omega) hb2.size ?_
                intro g4 cap4 V4 hown4 hgr4
                rw [Nat.zero_add, List.nil_append] at hown4
                rw [Nat.zero_add]
                have hb4 : Below wq.heap.size wq V4 := hb2.grown hgr4 hb2.size (fun q hq => by cases hq; exact (World.ownsRow.lt hown2 g2 rfl).1)
                refine hK.out _ _ hb4 (fun _ => ?_)
                clear hK K hown2 hgr4 hb2
                refine wpAnyH_ready (rs := [9]) (by kernel_rfl) (by simp) (AllReadyH.cons rfl (fun K hK => ?_) AllReadyH.nil)
                go_simp
                have hb5 : Below wq.heap.size wq (V4.alloc (.cells (boolr (List.replicate h.length false)) 4)) := hb4.trans (((Below.refl _ _).alloc (Nat.le_refl _) _).mono hb4.size)
                have hrow5 := RowO.new V4 h.length
                have hle5 : wq.heap.size ≤ V4.heap.size := hb4.size
                have hown5 := own_later hown4 ((Below.refl _ _).alloc (Nat.le_refl _) (.cells (boolr (List.replicate h.length false)) 4))
                refine hK.out _ _ hb5 (fun _ => ?_)
                clear hK K
                obtain ⟨S, hge⟩ : ∃ b, b = V4.heap.size := ⟨_, rfl⟩
                rw [← hge] at hrow5 hle5 ⊢
                clear hge hb4 hown4
                revert hb5 hrow5 hown5
                generalize V4.alloc (.cells (boolr (List.replicate h.length false)) 4) = V5
                intro hb5 hown5 hrow5
                refine wpAnyH_ready (rs := [10]) (by kernel_rfl) (by simp) (AllReadyH.cons rfl (fun K hK => ?_) AllReadyH.nil)
                go_simp
                have hPB := RowB.of_own hown5
                have hgl := (World.ownsRow.lt hown5 g4 rfl).1
                have hPS : g4 ≠ S := by
                  obtain ⟨_, hk⟩ := hPB
                  exact Blk.ne_ hk hrow5 (by decide)
                refine (HFN.out V5 g4 S cap4 hPS hgl hle5 hb5 hPB hrow5).mono ?_
                rintro e w5 ⟨b5, q5, u5, rfl, hP5, hS5, hl5, hon5, hy5, hn5⟩
                have hbd := hb5.trans (hon5.to_below hb5.size (fun j hj => by rcases hj with rfl | rfl; exact hgl; exact hle5))
                refine hK.out _ _ hbd (fun _ => ?_)
                clear hK K hb5 hown5 hrow5 hPB
                refine wpAnyH_take (i := 11) (v := ?_) rfl (by kernel_rfl) (by kernel_rfl) (by kernel_rfl) (fun _ _ _ h => h) (Or.inl ⟨by rfl, ?hy⟩) (by assumption) ?_
                case hy => (intro w hSw; have hcw : ∀ p o, p < wq.heap.size → w.cell? ⟨p, o, none⟩ = wq.cell? ⟨p, o, none⟩ := (fun p o h => hSw.cell (p := ⟨p, o, none⟩) h); clear hSw; go_simp; try with_reducible rfl)
                refine wpAnyH_take (i := 12) (v := ?_) rfl (by kernel_rfl) (by kernel_rfl) (by kernel_rfl) (fun _ _ _ h => h) (Or.inl ⟨by rfl, ?hy⟩) (by assumption) ?_
                case hy => (intro w hSw; have hcw : ∀ p o, p < wq.heap.size → w.cell? ⟨p, o, none⟩ = wq.cell? ⟨p, o, none⟩ := (fun p o h => hSw.cell (p := ⟨p, o, none⟩) h); clear hSw; go_simp; try with_reducible rfl)
                refine wpAnyH_take (i := 13) (v := ?_) rfl (by kernel_rfl) (by kernel_rfl) (by kernel_rfl) (fun _ _ _ h => h) (Or.inl ⟨by rfl, ?hy⟩) (by assumption) ?_
                case hy => (intro w hSw; have hcw : ∀ p o, p < wq.heap.size → w.cell? ⟨p, o, none⟩ = wq.cell? ⟨p, o, none⟩ := (fun p o h => hSw.cell (p := ⟨p, o, none⟩) h); clear hSw; go_simp; try with_reducible rfl)
                refine wpAnyH_take (i := 14) (v := ?_) rfl (by kernel_rfl) (by kernel_rfl) (by kernel_rfl) (fun _ _ _ h => h) (Or.inl ⟨by rfl, ?hy⟩) (by assumption) ?_
                case hy => (intro w hSw; have hcw : ∀ p o, p < wq.heap.size → w.cell? ⟨p, o, none⟩ = wq.cell? ⟨p, o, none⟩ := (fun p o h => hSw.cell (p := ⟨p, o, none⟩) h); clear hSw; go_simp; try with_reducible rfl)
                refine wpAnyH_take (i := 15) (v := ?_) rfl (by kernel_rfl) (by kernel_rfl) (by kernel_rfl) (fun _ _ _ h => h) (Or.inl ⟨by rfl, ?hy⟩) (by assumption) ?_
                case hy => (intro w hSw; have hcw : ∀ p o, p < wq.heap.size → w.cell? ⟨p, o, none⟩ = wq.cell? ⟨p, o, none⟩ := (fun p o h => hSw.cell (p := ⟨p, o, none⟩) h); clear hSw; go_simp; try with_reducible rfl)
                refine wpAnyH_take (i := 16) (v := ?_) rfl (by kernel_rfl) (by kernel_rfl) (by kernel_rfl) (fun _ _ _ h => h) (Or.inl ⟨by rfl, ?hy⟩) (by assumption) ?_
                case hy => (intro w hSw; have hcw : ∀ p o, p < wq.heap.size → w.cell? ⟨p, o, none⟩ = wq.cell? ⟨p, o, none⟩ := (fun p o h => hSw.cell (p := ⟨p, o, none⟩) h); clear hSw; go_simp; try with_reducible rfl)
                refine wpAnyH_take (i := 17) (v := ?_) rfl (by kernel_rfl) (by kernel_rfl) (by kernel_rfl) (fun _ _ _ h => h) (Or.inl ⟨by rfl, ?hy⟩) (by assumption) ?_
                case hy => (intro w hSw; have hcw : ∀ p o, p < wq.heap.size → w.cell? ⟨p, o, none⟩ = wq.cell? ⟨p, o, none⟩ := (fun p o h => hSw.cell (p := ⟨p, o, none⟩) h); clear hSw; go_simp; try with_reducible rfl)
                refine wpAnyH_done (by kernel_rfl) ?_ _
                go_wp2_with fail
                go_meet
                case rel => exact ⟨b5, q5, g4, cap4, rfl, rfl, hP5, hgl, fun e => HU.out.yes ((hy5 e).iff fun g => unseen_rep), fun e => HU.out.no rfl (hn5 e).2, hbd⟩
              case q31 =>
                go_simp
                have hb6 : Below wq.heap.size wq (V2.alloc (.cells (boolr (List.replicate h.length false)) 4)) := hb2.trans (((Below.refl _ _).alloc (Nat.le_refl _) _).mono hb2.size)
                have hrow6 := RowO.new V2 h.length
                have hle6 : wq.heap.size ≤ V2.heap.size := hb2.size
                have hown6 := own_later hown2 ((Below.refl _ _).alloc (Nat.le_refl _) (.cells (boolr (List.replicate h.length false)) 4))
                refine hK.out _ _ hb6 (fun _ => ?_)
                clear hK K
                obtain ⟨S, hge⟩ : ∃ b, b = V2.heap.size := ⟨_, rfl⟩
                rw [← hge] at hrow6 hle6 ⊢
                clear hge hb2 hown2
                revert hb6 hrow6 hown6
                generalize V2.alloc (.cells (boolr (List.replicate h.length false)) 4) = V6
                intro hb6 hown6 hrow6
                refine wpAnyH_ready (rs := [6]) (by kernel_rfl) (by simp) (AllReadyH.cons rfl (fun K hK => ?_) AllReadyH.nil)
                refine sapp_ints rfl (.tmp 37) (.tmp 38) rfl wq.heap.size g2 0 0 [] rfl hown6 (some ⟨P, 0, none⟩) h.length cP o rfl (HPO.out.later hb6) (by omega) hb6.size ?_
                intro g7 cap7 V7 hown7 hgr7
                rw [Nat.zero_add, List.nil_append] at hown7
                rw [Nat.zero_add]
                have hb7 : Below wq.heap.size wq V7 := hb6.grown hgr7 hb6.size (fun q hq => by cases hq; exact (World.ownsRow.lt hown6 g2 rfl).1)
                have hrow7 : RowO V7 S (List.replicate h.length false) := Blk.grown hrow6 hgr7 (fun e => by injection e with e; obtain ⟨_, hk⟩ := RowB.of_own hown6; exact (Blk.ne_ hrow6 hk (by decide)) e)
                refine hK.out _ _ hb7 (fun _ => ?_)
                clear hK K hown6 hgr7 hb6 hrow6
                refine wpAnyH_ready (rs := [10]) (by kernel_rfl) (by simp) (AllReadyH.cons rfl (fun K hK => ?_) AllReadyH.nil)
                go_simp
                have hPB := RowB.of_own hown7
                have hgl := (World.ownsRow.lt hown7 g7 rfl).1
                have hPS : g7 ≠ S := by
                  obtain ⟨_, hk⟩ := hPB
                  exact Blk.ne_ hk hrow7 (by decide)
                refine (HFN.out V7 g7 S cap7 hPS hgl hle6 hb7 hPB hrow7).mono ?_
                rintro e w5 ⟨b5, q5, u5, rfl, hP5, hS5, hl5, hon5, hy5, hn5⟩
                have hbd := hb7.trans (hon5.to_below hb7.size (fun j hj => by rcases hj with rfl | rfl; exact hgl; exact hle6))
                refine hK.out _ _ hbd (fun _ => ?_)
                clear hK K hb7 hown7 hrow7 hPB
                refine wpAnyH_take (i := 11) (v := ?_) rfl (by kernel_rfl) (by kernel_rfl) (by kernel_rfl) (fun _ _ _ h => h) (Or.inl ⟨by rfl, ?hy⟩) (by assumption) ?_
                case hy => (intro w hSw; have hcw : ∀ p o, p < wq.heap.size → w.cell? ⟨p, o, none⟩ = wq.cell? ⟨p, o, none⟩ := (fun p o h => hSw.cell (p := ⟨p, o, none⟩) h); clear hSw; go_simp; try with_reducible rfl)
                refine wpAnyH_take (i := 12) (v := ?_) rfl (by kernel_rfl) (by kernel_rfl) (by kernel_rfl) (fun _ _ _ h => h) (Or.inl ⟨by rfl, ?hy⟩) (by assumption) ?_
                case hy => (intro w hSw; have hcw : ∀ p o, p < wq.heap.size → w.cell? ⟨p, o, none⟩ = wq.cell? ⟨p, o, none⟩ := (fun p o h => hSw.cell (p := ⟨p, o, none⟩) h); clear hSw; go_simp; try with_reducible rfl)
                refine wpAnyH_take (i := 13) (v := ?_) rfl (by kernel_rfl) (by kernel_rfl) (by kernel_rfl) (fun _ _ _ h => h) (Or.inl ⟨by rfl, ?hy⟩) (by assumption) ?_
                case hy => (intro w hSw; have hcw : ∀ p o, p < wq.heap.size → w.cell? ⟨p, o, none⟩ = wq.cell? ⟨p, o, none⟩ := (fun p o h => hSw.cell (p := ⟨p, o, none⟩) h); clear hSw; go_simp; try with_reducible rfl)
                refine wpAnyH_take (i := 14) (v := ?_) rfl (by kernel_rfl) (by kernel_rfl) (by kernel_rfl) (fun _ _ _ h => h) (Or.inl ⟨by rfl, ?hy⟩) (by assumption) ?_
                case hy => (intro w hSw; have hcw : ∀ p o, p < wq.heap.size → w.cell? ⟨p, o, none⟩ = wq.cell? ⟨p, o, none⟩ := (fun p o h => hSw.cell (p := ⟨p, o, none⟩) h); clear hSw; go_simp; try with_reducible rfl)
                refine wpAnyH_take (i := 15) (v := ?_) rfl (by kernel_rfl) (by kernel_rfl) (by kernel_rfl) (fun _ _ _ h => h) (Or.inl ⟨by rfl, ?hy⟩) (by assumption) ?_
                case hy => (intro w hSw; have hcw : ∀ p o, p < wq.heap.size → w.cell? ⟨p, o, none⟩ = wq.cell? ⟨p, o, none⟩ := (fun p o h => hSw.cell (p := ⟨p, o, none⟩) h); clear hSw; go_simp; try with_reducible rfl)
                refine wpAnyH_take (i := 16) (v := ?_) rfl (by kernel_rfl) (by kernel_rfl) (by kernel_rfl) (fun _ _ _ h => h) (Or.inl ⟨by rfl, ?hy⟩) (by assumption) ?_
                case hy => (intro w hSw; have hcw : ∀ p o, p < wq.heap.size → w.cell? ⟨p, o, none⟩ = wq.cell? ⟨p, o, none⟩ := (fun p o h => hSw.cell (p := ⟨p, o, none⟩) h); clear hSw; go_simp; try with_reducible rfl)
                refine wpAnyH_take (i := 17) (v := ?_) rfl (by kernel_rfl) (by kernel_rfl) (by kernel_rfl) (fun _ _ _ h => h) (Or.inl ⟨by rfl, ?hy⟩) (by assumption) ?_
                case hy => (intro w hSw; have hcw : ∀ p o, p < wq.heap.size → w.cell? ⟨p, o, none⟩ = wq.cell? ⟨p, o, none⟩ := (fun p o h => hSw.cell (p := ⟨p, o, none⟩) h); clear hSw; go_simp; try with_reducible rfl)
                refine wpAnyH_done (by kernel_rfl) ?_ _
                go_wp2_with fail
                go_meet
                case rel => exact ⟨b5, q5, g7, cap7, rfl, rfl, hP5, hgl, fun e => HU.out.yes ((hy5 e).iff fun g => unseen_rep), fun e => HU.out.no rfl (hn5 e).2, hbd⟩
            case q11 =>
              go_simp
              have hb8 : Below wq.heap.size wq (V0.alloc (.cells (boolr (List.replicate h.length false)) 4)) := hb0.trans (((Below.refl _ _).alloc (Nat.le_refl _) _).mono hb0.size)
              have hrow8 := RowO.new V0 h.length
              have hle8 : wq.heap.size ≤ V0.heap.size := hb0.size
              refine hK.out _ _ hb8 (fun _ => ?_)
              clear hK K
              obtain ⟨S, hge⟩ : ∃ b, b = V0.heap.size := ⟨_, rfl⟩
              rw [← hge] at hrow8 hle8 ⊢
              clear hge hb0
              revert hb8 hrow8
              generalize V0.alloc (.cells (boolr (List.replicate h.length false)) 4) = V8
              intro hb8 hrow8
              refine wpAnyH_ready (rs := [4]) (by kernel_rfl) (by simp) (AllReadyH.cons rfl (fun K hK => ?_) AllReadyH.nil)
              go_simp
              have hb9 : Below wq.heap.size wq (V8.alloc (.cells #[] 3)) := hb8.trans (((Below.refl _ _).alloc (Nat.le_refl _) _).mono hb8.size)
              have hown9 : (V8.alloc (.cells #[] 3)).ownsRow wq.heap.size 3 1 (.slice (some ⟨V8.heap.size, 0, none⟩) 0 0) 0 (([] : List Int).map (Value.int .i64)) := World.ownsRow_made (base := wq.heap.size) (e := 3) (size := 1) V8 #[] 0 hb8.size (by unfold maxLen; omega) (by simp)
              have hrow9 := hrow8.later ((Below.refl _ _).alloc (Nat.le_refl _) (.cells #[] 3))
              refine hK.out _ _ hb9 (fun _ => ?_)
              clear hK K
              obtain ⟨g9, hge⟩ : ∃ b, b = V8.heap.size := ⟨_, rfl⟩
              rw [← hge] at hown9 ⊢
              clear hge hb8 hrow8
              revert hb9 hown9 hrow9
              generalize V8.alloc (.cells #[] 3) = V9
              intro hb9 hrow9 hown9
              refine wpAnyH_ready (rs := [6]) (by kernel_rfl) (by simp) (AllReadyH.cons rfl (fun K hK => ?_) AllReadyH.nil)
              refine sapp_ints rfl (.tmp 37) (.tmp 38) rfl wq.heap.size g9 0 0 [] rfl hown9 (some ⟨P, 0, none⟩) h.length cP o rfl (HPO.out.later hb9) (by omega) hb9.size ?_
              intro g10 cap10 V10 hown10 hgr10
              rw [Nat.zero_add, List.nil_append] at hown10
              rw [Nat.zero_add]
              have hb10 : Below wq.heap.size wq V10 := hb9.grown hgr10 hb9.size (fun q hq => by cases hq; exact (World.ownsRow.lt hown9 g9 rfl).1)
              have hrow10 : RowO V10 S (List.replicate h.length false) := Blk.grown hrow9 hgr10 (fun e => by injection e with e; obtain ⟨_, hk⟩ := RowB.of_own hown9; exact (Blk.ne_ hrow9 hk (by decide)) e)
              refine hK.out _ _ hb10 (fun _ => ?_)
              clear hK K hown9 hgr10 hb9 hrow9
              refine wpAnyH_ready (rs := [10]) (by kernel_rfl) (by simp) (AllReadyH.cons rfl (fun K hK => ?_) AllReadyH.nil)
              go_simp
              have hPB := RowB.of_own hown10
              have hgl := (World.ownsRow.lt hown10 g10 rfl).1
              have hPS : g10 ≠ S := by
                obtain ⟨_, hk⟩ := hPB
                exact Blk.ne_ hk hrow10 (by decide)
              refine (HFN.out V10 g10 S cap10 hPS hgl hle8 hb10 hPB hrow10).mono ?_
              rintro e w5 ⟨b5, q5, u5, rfl, hP5, hS5, hl5, hon5, hy5, hn5⟩
              have hbd := hb10.trans (hon5.to_below hb10.size (fun j hj => by rcases hj with rfl | rfl; exact hgl; exact hle8))
              refine hK.out _ _ hbd (fun _ => ?_)
              clear hK K hb10 hown10 hrow10 hPB
              refine wpAnyH_take (i := 11) (v := ?_) rfl (by kernel_rfl) (by kernel_rfl) (by kernel_rfl) (fun _ _ _ h => h) (Or.inl ⟨by rfl, ?hy⟩) (by assumption) ?_
              case hy => (intro w hSw; have hcw : ∀ p o, p < wq.heap.size → w.cell? ⟨p, o, none⟩ = wq.cell? ⟨p, o, none⟩ := (fun p o h => hSw.cell (p := ⟨p, o, none⟩) h); clear hSw; go_simp; try with_reducible rfl)
              refine wpAnyH_take (i := 12) (v := ?_) rfl (by kernel_rfl) (by kernel_rfl) (by kernel_rfl) (fun _ _ _ h => h) (Or.inl ⟨by rfl, ?hy⟩) (by assumption) ?_
              case hy => (intro w hSw; have hcw : ∀ p o, p < wq.heap.size → w.cell? ⟨p, o, none⟩ = wq.cell? ⟨p, o, none⟩ := (fun p o h => hSw.cell (p := ⟨p, o, none⟩) h); clear hSw; go_simp; try with_reducible rfl)
              refine wpAnyH_take (i := 13) (v := ?_) rfl (by kernel_rfl) (by kernel_rfl) (by kernel_rfl) (fun _ _ _ h => h) (Or.inl ⟨by rfl, ?hy⟩) (by assumption) ?_
              case hy => (intro w hSw; have hcw : ∀ p o, p < wq.heap.size → w.cell? ⟨p, o, none⟩ = wq.cell? ⟨p, o, none⟩ := (fun p o h => hSw.cell (p := ⟨p, o, none⟩) h); clear hSw; go_simp; try with_reducible rfl)
              refine wpAnyH_take (i := 14) (v := ?_) rfl (by kernel_rfl) (by kernel_rfl) (by kernel_rfl) (fun _ _ _ h => h) (Or.inl ⟨by rfl, ?hy⟩) (by assumption) ?_
              case hy => (intro w hSw; have hcw : ∀ p o, p < wq.heap.size → w.cell? ⟨p, o, none⟩ = wq.cell? ⟨p, o, none⟩ := (fun p o h => hSw.cell (p := ⟨p, o, none⟩) h); clear hSw; go_simp; try with_reducible rfl)
              refine wpAnyH_take (i := 15) (v := ?_) rfl (by kernel_rfl) (by kernel_rfl) (by kernel_rfl) (fun _ _ _ h => h) (Or.inl ⟨by rfl, ?hy⟩) (by assumption) ?_
              case hy => (intro w hSw; have hcw : ∀ p o, p < wq.heap.size → w.cell? ⟨p, o, none⟩ = wq.cell? ⟨p, o, none⟩ := (fun p o h => hSw.cell (p := ⟨p, o, none⟩) h); clear hSw; go_simp; try with_reducible rfl)
              refine wpAnyH_take (i := 16) (v := ?_) rfl (by kernel_rfl) (by kernel_rfl) (by kernel_rfl) (fun _ _ _ h => h) (Or.inl ⟨by rfl, ?hy⟩) (by assumption) ?_
              case hy => (intro w hSw; have hcw : ∀ p o, p < wq.heap.size → w.cell? ⟨p, o, none⟩ = wq.cell? ⟨p, o, none⟩ := (fun p o h => hSw.cell (p := ⟨p, o, none⟩) h); clear hSw; go_simp; try with_reducible rfl)
              refine wpAnyH_take (i := 17) (v := ?_) rfl (by kernel_rfl) (by kernel_rfl) (by kernel_rfl) (fun _ _ _ h => h) (Or.inl ⟨by rfl, ?hy⟩) (by assumption) ?_
              case hy => (intro w hSw; have hcw : ∀ p o, p < wq.heap.size → w.cell? ⟨p, o, none⟩ = wq.cell? ⟨p, o, none⟩ := (fun p o h => hSw.cell (p := ⟨p, o, none⟩) h); clear hSw; go_simp; try with_reducible rfl)
              refine wpAnyH_done (by kernel_rfl) ?_ _
              go_wp2_with fail
              go_meet
              case rel => exact ⟨b5, q5, g10, cap10, rfl, rfl, hP5, hgl, fun e => HU.out.yes ((hy5 e).iff fun g => unseen_rep), fun e => HU.out.no rfl (hn5 e).2, hbd⟩
          case rest =>
            obtain ⟨b, q, P', c', rfl, rfl, hP', hP'1, hY, hN, hbq⟩ := hcut
            have kC2 := kC.later hbq
            have hP2 := hP.later hbq
            have hb2 := hb.trans (hbq.mono hb.size)
            have hNP' : w.heap.size ≤ P' := Nat.le_trans hb.size hP'1
            clear HFN HPO kC hP hb hbq
            cases b with
            | true =>
              have HU2 : Hid (Upto (fitP s h lo hi) h.length (k + 1) q (n + 1)) := hY rfl
              clear hY hN HU hP2
              go_wp2_with fail
              go_roundw
              case rel => exact ⟨k + 1, n + 1, P', c', q, HK1.out, HK2.out, by go_num, by go_num, rfl, hP', hNP', HU2, kC2, hb2⟩
              case measure => simp [RowKit.intOf]; have := HK4.out; omega
            | false =>
              have HU2 : Hid (Upto (fitP s h lo hi) h.length (k + 1) o n) := hN rfl
              clear hY hN HU hP'
              go_wp2_with fail
              go_roundw
              case rel => exact ⟨k + 1, n, P, cP, o, HK1.out, HK3.out, by go_num, rfl, rfl, hP2, hNPk, HU2, kC2, hb2⟩
              case measure => simp [RowKit.intOf]; have := HK4.out; omega
        · obtain rfl : k = s.length := by omega
          have hd : decide ((s.length : Int) < (s.length : Int)) = false := decide_eq_false (by omega)
          go_wp2_with fail
          go_ret
          exact ⟨n, rfl, HU.out.mx.congr fun x g => ⟨fun ⟨a, b, r⟩ => ⟨trivial, b, r⟩, fun ⟨a, b, r⟩ => ⟨r.1, b, r⟩⟩, hnk, hb⟩
end Go.Proofs.Ytpklcjbdmikbdaa
namespace Go.Proofs.Ytpklcjbdmikbdaa.fitLacks
open Go.RowKit

set_option maxRecDepth 100000 in
set_option maxHeartbeats 16000000 in
theorem walk (A B : Option Addr) (n c m d : Nat) (lo hi : Int) (s t : List Int) (w : World) (hsA : RowI w A n s) (hcA : n ≤ c) (hnA : A = none → c = 0) (hsB : RowI w B m t) (hcB : m ≤ d) (hnB : B = none → d = 0) :
    Calls Try.prog 12 #[.agg #[.slice A n c, .slice B m d, .int .i64 lo, .int .i64 hi]] w fun e w' => e = .returned (.bool true) ∧ Below w.heap.size w w' := by
  have hb0 : Below w.heap.size w (w.alloc (.cells #[.slice A n c, .slice B m d, .int .i64 lo, .int .i64 hi] 37)) := (Below.refl _ _).alloc (Nat.le_refl _) _
  have kY := Blk.new w 37 #[.slice A n c, .slice B m d, .int .i64 lo, .int .i64 hi]
  have hSA : SrcI w A n c s := ⟨hsA, hcA, hnA⟩
  have hSB : SrcI w B m d t := ⟨hsB, hcB, hnB⟩
  have HF := Lib.hid (few_any A B n c m d 24 s t lo hi _ (hSA.later hb0) (hSB.later hb0) (by omega))
  have cY := kY.cell
  have lY := kY.lt
  clear hsA hcA hnA hsB hcB hnB hSA hSB
  go_enter Try.func12, Try.ntmps12
  go_wp2_with fail
  refine HF.out.mono ?_
  rintro e w1 ⟨v1, v2, rfl, hown1, hown2, hb1⟩
  obtain ⟨A1, c1, rfl⟩ := own_slice hown1
  obtain ⟨B1, d1, rfl⟩ := own_slice hown2
  have hb2 := hb0.trans (hb1.mono hb0.size)
  have hS65 := fewL_len s 24
  have hT65 := fewL_len t 24
  generalize fewL s 24 = S at *
  generalize fewL t 24 = T at *
  have rS1 := own_rowH hown1
  have rT1 := own_rowH hown2
  have kX := Blk.new w1 37 #[.slice A1 S.length c1, .slice B1 T.length d1, .int .i64 lo, .int .i64 hi]
  have hb3 : Below w1.heap.size w1 (w1.alloc (.cells #[.slice A1 S.length c1, .slice B1 T.length d1, .int .i64 lo, .int .i64 hi] 37)) := (Below.refl _ _).alloc (Nat.le_refl _) _
  have rS := rS1.later hb3
  have rT := rT1.later hb3
  have hb := hb2.trans (hb3.mono hb2.size)
  clear HF cY lY hb0 kY hown1 hown2 hb1 hb2 hb3 rS1 rT1
  go_upto_region 2 with fail
  revert kX rS rT hb
  generalize w1.alloc (.cells #[.slice A1 S.length c1, .slice B1 T.length d1, .int .i64 lo, .int .i64 hi] 37) = w2
  generalize w1.heap.size = X
  intro kX rS rT hb
  have hbl := hb
  have hbf := Below.refl w2.heap.size w2
  have HV := Lib.hid fun w' h => valid_shop A1 B1 S.length c1 T.length d1 S T lo hi w' (rS.later (w' := w') h).rowI (rT.later h).rowI (by omega) (by omega)
  clear hb
  cases hpb : piecesB S T lo hi with
  | false =>
    have HP := Lib.hid (lacks_no A1 B1 c1 d1 S T lo hi w2 rS rT (by omega) (by omega) hpb)
    rw [hpb] at HV
    clear hpb rS rT
    have ckX := kX.cell
    have lkX := kX.lt
    go_wp2_with fail
    refine (HP.out).mono ?_
    rintro e wc1 ⟨rfl, hbc⟩
    replace kX := kX.later hbc
    replace hbf := hbf.trans (hbc.mono hbf.size)
    replace hbl := hbl.trans (hbc.mono hbl.size)
    clear hbc
    clear ckX lkX
    have ckX := kX.cell
    have lkX := kX.lt
    go_wp2_with fail
    refine (HV.out _ hbf).mono ?_
    rintro e wc2 ⟨rfl, hbc⟩
    replace hbl := hbl.trans (hbc.mono hbl.size)
    clear hbc
    clear ckX lkX
    go_wp2_with fail
    refine (lives_any _).mono ?_
    rintro e wc3 ⟨rfl, hbc⟩
    replace hbl := hbl.trans (hbc.mono hbl.size)
    clear hbc
    go_wp2_with fail
    go_ret
    exact ⟨rfl, hbl⟩
  | true =>
    rw [hpb] at HV
    obtain ⟨hs, hh, l1, l2, hsp⟩ := piecesB_iff.1 hpb
    have HP := Lib.hid (lacks_any A1 B1 c1 d1 S T lo hi w2 rS rT hpb)
    have HS := Lib.hid hs
    have HH := Lib.hid hh
    have HSP := Lib.hid hsp
    have HL1 := Lib.hid l1
    have HL2 := Lib.hid l2
    have HRS := Lib.hid rS
    have HRT := Lib.hid rT
    clear hpb hs hh hsp
    have ckX := kX.cell
    have lkX := kX.lt
    go_wp2_with fail
    refine HP.out.mono ?_
    rintro e w3 ⟨v9, l9, left, n9, rfl, hown, hok, hsh, hl0, hmx9, hnl, hbc⟩
    obtain ⟨A9, c9, rfl⟩ := own_slice hown
    have rL := own_spans hown rfl
    have HOK := Lib.hid hok
    have HSH := Lib.hid hsh
    have HL0 := Lib.hid hl0
    have HMX := Lib.hid hmx9
    have HNL := Lib.hid (show (S.length : Int) - (n9 : Int) = (left : Int) by omega)
    obtain ⟨q, hq⟩ : ∃ q, q = l9.length := ⟨_, rfl⟩
    rw [← hq] at rL ⊢
    have hln9 : q ≤ 64 := by rw [hq]; exact hok.2
    have HQL := Lib.hid hq
    have hn9 : n9 ≤ S.length := by omega
    clear HP hown hok hsh hl0 hmx9 hnl hq
    replace kX := kX.later hbc
    replace hbf := hbf.trans (hbc.mono hbf.size)
    replace hbl := hbl.trans (hbc.mono hbl.size)
    clear hbc
    clear ckX lkX
    have ckX := kX.cell
    have lkX := kX.lt
    go_wp2_with fail
    refine (HV.out _ hbf).mono ?_
    rintro e wc4 ⟨rfl, hbc⟩
    replace kX := kX.later hbc
    replace rL := rL.later hbc
    replace hbf := hbf.trans (hbc.mono hbf.size)
    replace hbl := hbl.trans (hbc.mono hbl.size)
    clear hbc
    clear ckX lkX
    obtain ⟨wq, hwq⟩ : ∃ x, x = wc4 := ⟨_, rfl⟩
    subst hwq
    have rSq := HRS.out.later hbf
    have rTq := HRT.out.later hbf
    have HM : Hid (∀ x : Later wq, Hid (Calls Try.prog 42 #[.slice A1 S.length c1, .slice B1 T.length d1, .agg #[.int .i64 lo, .int .i64 hi]] x.val fun e w' => e = .returned (.int .i64 (n9 : Int)) ∧ ∃ y : Later wq, w' = y.val)) := fun x =>
      later_call ((rmost_any (ca := c1) (cb := d1) (lo := lo) (hi := hi) x.val HS.out HH.out (by omega) (by omega) (rSq.later x.property).rowQ (rTq.later x.property).rowQ).mono fun e w' ⟨n, h1, h2, h3, h4⟩ => ⟨by rw [h1, h2.uniq HMX.out], h4⟩)
    clear rSq rTq
    have ckX := kX.cell
    have lkX := kX.lt
    have hxl := later_cell (w := wq)
    go_wp2_with fail
    refine wp_region_later (by kernel_rfl) (by kernel_rfl) ?_
    repeat (go_big_quiet_step ((go_at_call 42; exact (HM.out _).out)))
    refine wpQuiet_nil ?_
    rintro w6 ⟨⟨_, hbc⟩, rfl⟩
    rw [HNL.out]
    clear HM hxl hn9
    replace kX := kX.later hbc
    replace hbf := hbf.trans (hbc.mono hbf.size)
    replace hbl := hbl.trans (hbc.mono hbl.size)
    replace rL := rL.later hbc
    clear hbc
    clear ckX lkX
    have hee : ((left : Int) == (left : Int)) = true := by simp
    rcases Nat.eq_zero_or_pos left with h0 | h0
    · have hq0 : q = 0 := by rw [HQL.out, HL0.out h0]; rfl
      subst hq0
      have hd : decide ((left : Int) > 0) = false := decide_eq_false (by omega)
      have hd' : decide (0 < left) = false := decide_eq_false (by omega)
      clear h0
      have HQ := Lib.hid (rSpans_any A9 0 c9 l9 _ rL (by omega))
      rw [spansB_true HOK.out] at HQ
      have ckX := kX.cell
      have lkX := kX.lt
      go_wp2_with fail
      refine (HQ.out).mono ?_
      rintro e wc5 ⟨rfl, hbc⟩
      replace kX := kX.later hbc
      replace rL := rL.later hbc
      replace hbf := hbf.trans (hbc.mono hbf.size)
      replace hbl := hbl.trans (hbc.mono hbl.size)
      clear hbc
      clear ckX lkX
      have HW := Lib.hid (rShows_any A1 B1 A9 S.length c1 T.length d1 0 c9 S T lo hi l9 _ (HRS.out.later hbf) (HRT.out.later hbf) rL HS.out HH.out HL1.out HL2.out (by omega) HSP.out (by have h1 := HOK.out.1; rw [← HQL.out] at h1; exact h1))
      rw [HSH.out] at HW
      have ckX := kX.cell
      have lkX := kX.lt
      go_wp2_with fail
      refine (HW.out).mono ?_
      rintro e wc6 ⟨rfl, hbc⟩
      replace hbl := hbl.trans (hbc.mono hbl.size)
      clear hbc
      clear ckX lkX
      go_wp2_with fail
      refine (lives_any _).mono ?_
      rintro e wc7 ⟨rfl, hbc⟩
      replace hbl := hbl.trans (hbc.mono hbl.size)
      clear hbc
      go_wp2_with fail
      go_ret
      exact ⟨rfl, hbl⟩
    · have hd : decide ((left : Int) > 0) = true := decide_eq_true (by omega)
      have hd' : decide (0 < left) = true := decide_eq_true h0
      clear h0
      have HQ := Lib.hid (rSpans_any A9 q c9 l9 _ rL (by omega))
      rw [spansB_true HOK.out] at HQ
      have ckX := kX.cell
      have lkX := kX.lt
      go_wp2_with fail
      refine (HQ.out).mono ?_
      rintro e wc5 ⟨rfl, hbc⟩
      replace kX := kX.later hbc
      replace rL := rL.later hbc
      replace hbf := hbf.trans (hbc.mono hbf.size)
      replace hbl := hbl.trans (hbc.mono hbl.size)
      clear hbc
      clear ckX lkX
      have HW := Lib.hid (rShows_any A1 B1 A9 S.length c1 T.length d1 q c9 S T lo hi l9 _ (HRS.out.later hbf) (HRT.out.later hbf) rL HS.out HH.out HL1.out HL2.out (by omega) HSP.out (by have h1 := HOK.out.1; rw [← HQL.out] at h1; exact h1))
      rw [HSH.out] at HW
      have ckX := kX.cell
      have lkX := kX.lt
      go_wp2_with fail
      refine (HW.out).mono ?_
      rintro e wc6 ⟨rfl, hbc⟩
      replace hbl := hbl.trans (hbc.mono hbl.size)
      clear hbc
      clear ckX lkX
      go_wp2_with fail
      refine (lives_any _).mono ?_
      rintro e wc7 ⟨rfl, hbc⟩
      replace hbl := hbl.trans (hbc.mono hbl.size)
      clear hbc
      go_wp2_with fail
      go_ret
      exact ⟨rfl, hbl⟩
end Go.Proofs.Ytpklcjbdmikbdaa.fitLacks
namespace Go.Proofs.Ytpklcjbdmikbdaa.fitLacks
open Go.ChangeShapes Go.WideShapes Go.ChangeAt Go.RowKit


set_option maxHeartbeats 2000000 in
set_option maxHeartbeats 4000000 in
set_option maxRecDepth 100000 in
theorem lifted (os : Os) (started : os.Started) (H : Type) (enc : TypeId × Value → H) :
    ReturnsInHanded {} Try.checked os 12 .any (Rows.fitLacksSpec.pre6 enc Try.prog Try.f12 Rows.fitLacksRow.domain false) (Rows.fitLacksSpec.post enc Try.prog Try.f12 false true false false) := by
  refine returnsInHanded_of_change (C := Try.checked) Try.own started (by kernel_rfl) Try.func12
    (ChangeSpec.witness6 (enc := enc) (C := Try.checked) false ⟨#[], #[.agg #[.slice none 0 0, .slice none 0 0, .int .i64 0, .int .i64 0]], []⟩ 8 (by kernel_rfl) (by kernel_rfl) (by kernel_rfl) (by kernel_rfl)) ?_
  intro W base args ds gs before hval0 hW hcnd _
  have hval : ∀ (j : Nat) t v, Try.f12.params[j]? = some t → args[j]? = some v → Value.okWide Try.prog W .any base t v := hval0
  have hW' := hW
  obtain ⟨p, q, hA0, hV, rfl, hfz, hnd⟩ := hW
  have hA : DataW.TrodAll enc Try.prog W 0 (fun _ => true) true Try.f12.params.toList args.toList ds p := hA0
  rw [Try.params12] at hA hval
  obtain ⟨v0, vs0, d0, ds0, p0, q0, hargs, rfl, rfl, h0, r0⟩ := trodAll_cons hA
  obtain ⟨rfl, rfl, rfl⟩ := trodAll_nil r0
  obtain rfl : args = #[v0] := by cases args; simp_all
  obtain ⟨rfl, rfl⟩ := trodVars_none hV
  obtain ⟨A0, B0, n0, c0, m0, e0, s0, t0, lo0, hi0, rfl, x0, y0, u0, x0b, y0b, u0b⟩ := open_Q (hval 0 37 v0 rfl rfl) h0
  refine (walk A0 B0 n0 c0 m0 e0 lo0 hi0 s0 t0 W x0 y0 u0 x0b y0b u0b).mono fun e W' ⟨he, hb⟩ => ?_
  exact ⟨_, he, law_post rfl (by kernel_rfl) (by kernel_rfl) hW' rfl rfl rfl hb⟩

set_option maxHeartbeats 4000000 in
set_option maxRecDepth 100000 in
theorem facts : joinedFacts Try.prog 12 Try.f12 Rows.fitLacksSpec Rows.fitLacksRow = true := by
  unfold joinedFacts
  repeat' (with_reducible refine and_t ?_ ?_)
  all_goals first
    | with_reducible exact Try.enters
    | (rw [Try.finals]; as_aux_lemma => kernel_rfl)
    | (rw [Try.made]; as_aux_lemma => kernel_rfl)
    | (as_aux_lemma => kernel_rfl)

theorem proved : Rows.FitLacksSaid :=
  OpenClaim.holds_of_wide 12 Try.f12 rfl rfl rfl rfl rfl rfl rfl ⟨rfl, rfl, rfl, rfl, rfl⟩ rfl rfl rfl rfl rfl (by as_aux_lemma => kernel_rfl) Try.func12 facts
    (of_decide_eq_true (by as_aux_lemma => kernel_rfl)) (by unfold Func.isWrapper; rw [if_neg (of_decide_eq_false (by kernel_rfl))]; exact ⟨rfl, rfl⟩)
    (fun os started H enc _ => lifted os started H enc)
#print axioms proved
end Go.Proofs.Ytpklcjbdmikbdaa.fitLacks
