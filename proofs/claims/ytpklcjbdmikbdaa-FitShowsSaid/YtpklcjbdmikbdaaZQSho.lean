/-
Proved: FitShows: Shows returns what spans show, or the error that the document names, for all spans.
  Conditions: none.
-/
import Derived.Test.YtpklcjbdmikbdaaGQ
import Derived.Test.YtpklcjbdmikbdaaGO
namespace Go.Proofs.Ytpklcjbdmikbdaa
open Go.RowKit

def scells : List (Int × Int) → List Value
  | [] => []
  | p :: l => .int .i64 p.1 :: .int .i64 p.2 :: scells l
theorem scells_len : ∀ l : List (Int × Int), (scells l).length = l.length * 2
  | [] => rfl
  | p :: l => by simp only [scells, List.length_cons, scells_len l]; omega
theorem scells_append : ∀ l m : List (Int × Int), scells (l ++ m) = scells l ++ scells m
  | [], _ => rfl
  | p :: l, m => by simp only [List.cons_append, scells, scells_append l m]
theorem scells_at : ∀ {l : List (Int × Int)} {k : Nat} {p : Int × Int}, l[k]? = some p → (scells l)[k * 2]? = some (.int .i64 p.1) ∧ (scells l)[k * 2 + 1]? = some (.int .i64 p.2)
  | [], _, _, h => by simp at h
  | q :: l, 0, p, h => by
    obtain rfl : q = p := by simpa using h
    exact ⟨rfl, rfl⟩
  | q :: l, k + 1, p, h => by
    have h' : l[k]? = some p := by simpa using h
    obtain ⟨a, b⟩ := scells_at h'
    rw [show (k + 1) * 2 = k * 2 + 2 by omega]
    exact ⟨a, b⟩
theorem scells_of : ∀ {l : List (Int × Int)} {j : Nat} {u : Value}, (scells l)[j]? = some u → ∃ (k : Nat) (p : Int × Int), l[k]? = some p ∧ ((j = k * 2 ∧ u = .int .i64 p.1) ∨ (j = k * 2 + 1 ∧ u = .int .i64 p.2))
  | [], _, _, h => by simp [scells] at h
  | p :: l, 0, u, h => ⟨0, p, rfl, .inl ⟨rfl, by simpa [scells] using h.symm⟩⟩
  | p :: l, 1, u, h => ⟨0, p, rfl, .inr ⟨rfl, by simpa [scells] using h.symm⟩⟩
  | p :: l, j + 2, u, h => by
    obtain ⟨k, q, h1, h2⟩ := scells_of (l := l) (j := j) (u := u) (by simpa [scells] using h)
    refine ⟨k + 1, q, by simpa using h1, ?_⟩
    rcases h2 with ⟨a, b⟩ | ⟨a, b⟩
    · exact .inl ⟨by omega, b⟩
    · exact .inr ⟨by omega, b⟩
theorem scells_one (l : List (Int × Int)) : ∀ u ∈ scells l, u.oneCell' = true := by
  intro u hu
  obtain ⟨j, hj⟩ := List.mem_iff_getElem?.1 hu
  obtain ⟨k, p, _, h⟩ := scells_of hj
  rcases h with ⟨_, rfl⟩ | ⟨_, rfl⟩ <;> rfl
theorem scells_set : ∀ {l : List (Int × Int)} {k : Nat} {p : Int × Int} (v : Int), l[k]? = some p → (scells l).set (k * 2 + 1) (.int .i64 v) = scells (l.set k (p.1, v))
  | [], _, _, _, h => by simp at h
  | q :: l, 0, p, v, h => by
    obtain rfl : q = p := by simpa using h
    rfl
  | q :: l, k + 1, p, v, h => by
    have ih := scells_set (l := l) (k := k) (p := p) v (by simpa using h)
    rw [show (k + 1) * 2 + 1 = k * 2 + 1 + 2 by omega]
    simp only [scells, List.set_cons_succ, ih]
/-- A slice of spans that starts at the head of a block. -/
def SpansH (w : World) (A : Option Addr) (n : Nat) (l : List (Int × Int)) : Prop :=
  l.length = n ∧ (0 < n → ∃ g, A = some ⟨g, 0, none⟩ ∧ g < w.heap.size ∧ ∀ (k : Nat) (p : Int × Int), l[k]? = some p → w.cell? ⟨g, k * 2, none⟩ = some (.int .i64 p.1) ∧ w.cell? ⟨g, k * 2 + 1, none⟩ = some (.int .i64 p.2))
theorem SpansH.later {w w' : World} {A : Option Addr} {n : Nat} {l : List (Int × Int)} (h : SpansH w A n l) (hb : Below w.heap.size w w') : SpansH w' A n l :=
  ⟨h.1, fun hn => by
    obtain ⟨g, e, hg, hc⟩ := h.2 hn
    exact ⟨g, e, Nat.lt_of_lt_of_le hg hb.size, fun k p hk => ⟨(hb.cell (p := ⟨g, k * 2, none⟩) hg).trans (hc k p hk).1, (hb.cell (p := ⟨g, k * 2 + 1, none⟩) hg).trans (hc k p hk).2⟩⟩⟩
theorem SpansH.at_ {w : World} {A : Option Addr} {n : Nat} {l : List (Int × Int)} {k : Nat} (h : SpansH w A n l) (hk : k < n) : ∃ g p, A = some ⟨g, 0, none⟩ ∧ g < w.heap.size ∧ l[k]? = some p ∧ w.cell? ⟨g, k * 2, none⟩ = some (.int .i64 p.1) ∧ w.cell? ⟨g, k * 2 + 1, none⟩ = some (.int .i64 p.2) := by
  obtain ⟨g, e, hg, hc⟩ := h.2 (by omega)
  have hl : k < l.length := by have := h.1; omega
  obtain ⟨a, b⟩ := hc k _ (List.getElem?_eq_getElem hl)
  exact ⟨g, l[k], e, hg, List.getElem?_eq_getElem hl, a, b⟩
theorem own_spans {w : World} {base n c : Nat} {A : Option Addr} {l : List (Int × Int)} (h : w.ownsRow base 26 2 (.slice A n c) n (scells l)) (hn : l.length = n) : SpansH w A n l := by
  refine ⟨hn, fun h0 => ?_⟩
  obtain ⟨g, cap, e, _, hg⟩ := h.form h0
  injection e with e1 e2 e3
  subst e1 e3
  refine ⟨g, rfl, hg, fun k p hk => ?_⟩
  have hkn : k < n := by have := (List.getElem?_eq_some_iff.1 hk).1; omega
  obtain ⟨a, b⟩ := scells_at hk
  exact ⟨(h.cellAt (k * 2) (by omega)).trans a, (h.cellAt (k * 2 + 1) (by omega)).trans b⟩
theorem SpansA.later {w w' : World} {A : Option Addr} {n : Nat} {l : List (Int × Int)} (h : SpansA w A n l) (hb : Below w.heap.size w w') : SpansA w' A n l :=
  ⟨h.1, fun hn => by
    obtain ⟨a, e, ha, hc⟩ := h.2 hn
    exact ⟨a, e, Nat.lt_of_lt_of_le ha hb.size, fun k p hk => ⟨(hb.cell (by rw [add_block]; exact ha)).trans (hc k p hk).1, (hb.cell (p := ⟨(a.add (k * 2)).block, (a.add (k * 2)).off + 1, none⟩) (by rw [add_block]; exact ha)).trans (hc k p hk).2⟩⟩⟩
theorem SpansA.take {w : World} {A : Option Addr} {n m : Nat} {l : List (Int × Int)} (h : SpansA w A n l) (hm : m ≤ n) : SpansA w A m (l.take m) := by
  refine ⟨by rw [List.length_take, h.1]; omega, fun h0 => ?_⟩
  obtain ⟨a, e, ha, hc⟩ := h.2 (by omega)
  refine ⟨a, e, ha, fun k p hk => hc k p ?_⟩
  have hkm : k < m := by have := (List.getElem?_eq_some_iff.1 hk).1; rw [List.length_take] at this; omega
  rwa [List.getElem?_take_of_lt hkm] at hk
theorem spans_news {w : World} {a : Addr} {n : Nat} {l : List (Int × Int)} (h : SpansA w (some a) n l) (hn : 0 < n) : ∀ j u, (scells l)[j]? = some u → w.cell? (a.add j) = some u := by
  obtain ⟨a', e, ha, hc⟩ := h.2 hn
  cases e
  intro j u hj
  obtain ⟨k, p, hk, h3⟩ := scells_of hj
  obtain ⟨c0, c1⟩ := hc k p hk
  rcases h3 with ⟨rfl, rfl⟩ | ⟨rfl, rfl⟩
  · exact c0
  · rw [← add_off _ 1 (by omega)]; exact c1
theorem info26 : (Try.prog.info? 26).map (fun i => (i.zero, i.size, i.bytes)) = some (some (.agg #[.int .i64 0, .int .i64 0]), 2, 16) := by kernel_rfl
theorem app_spans (w : World) {ops : Array Oper} {rest : List Oper} {o : Oper} {a : Act} {Q : Exit → Act → World → Prop} (hgd : o.guard = none) (s x : Operand)
    (ho : o.op = .call { callee := .builtin .append, args := #[s, x], argTypes := #[58, 58] }) (base : Nat) (v : Value) (n : Nat) (xs : List (Int × Int)) (hs : a.eval s = v) (hown : w.ownsRow base 26 2 v n (scells xs))
    (ao : Option Addr) (m c : Nat) (l : List (Int × Int)) (hx : a.eval x = .slice ao m c) (hr : SpansA w ao m l) (hn : n + m ≤ 100000) (hbase : base ≤ w.heap.size)
    (h : ∀ v' w', w'.ownsRow base 26 2 v' (n + m) (scells xs ++ scells l) → w.grownBy w' v.ownBlock → wpList Try.prog ops Q rest (a.put o.dst v') w') : wpList Try.prog ops Q (o :: rest) a w := by
  obtain ⟨i0, hi, hz0, hz1, hz2⟩ := info_parts info26
  rcases Nat.eq_zero_or_pos m with z | z
  · subst z
    have hl : l = [] := List.eq_nil_of_length_eq_zero hr.1
    subst hl
    have hsrc : Src Try.prog i0.size 58 (.slice ao 0 c) 0 [] w := by
      cases ao with
      | none => exact Src.ofNil w Try.underlying58 c
      | some ad => exact Src.ofSlice w Try.underlying58 ad 0 c [] (by simp) (by simp) (by simp)
    obtain ⟨b, sl, sc, hv, hle⟩ : ∃ b sl sc, v = .slice b sl sc ∧ sl ≤ sc := by
      rcases hown.2 with ⟨h1, _⟩ | ⟨g, cap, cur, h1, _, _, h2, _⟩
      · exact ⟨_, _, _, h1, Nat.le_refl _⟩
      · exact ⟨_, _, _, h1, h2⟩
    have hrun := run_append_nothing (P := Try.prog) w 58 58 o.type 26 i0 Try.underlying58 hi b sl sc hle _ hsrc
    rw [← hv] at hrun
    refine wpList_plain hgd fun K hK => ?_
    unfold Oper.wp
    simp [execOp, ho, resolve, invoke, builtin, hs, hx, hrun, Result.andThen]
    exact hK _ _ (h v w (by simpa [scells] using hown) (World.grownBy.refl _ _))
  · obtain ⟨ad, e, _, _⟩ := hr.2 z
    subst e
    refine wpList_append_lies w hgd s x 58 ho base 26 i0 _ 2 16 Try.underlying58 hi hz0 hz1 hz2 rfl (by decide) v n _ hs hown ad m c (scells l) hx (by rw [scells_len, hr.1]) (spans_news hr z) (scells_one _) z (by unfold maxLen; omega) (by omega) hbase _ rfl ?_
    intro g cap w' hown' hgr _ _
    exact h _ _ hown' hgr
/-! ### What spans show -/
/-- A valid span, within twice the greatest size. -/
def okS (p : Int × Int) : Prop := -2000000 ≤ p.1 ∧ p.1 ≤ p.2 ∧ p.2 ≤ 2000000
/-- The first k spans are valid, and each lies behind the one before it. -/
def spOK (l : List (Int × Int)) (k : Nat) : Prop := ∀ i p, i < k → l[i]? = some p → okS p ∧ ∀ r, 0 < i → l[i - 1]? = some r → r.2 < p.1
theorem spOK_zero (l : List (Int × Int)) : spOK l 0 := fun i p h => absurd h (by omega)
theorem spOK_step {l : List (Int × Int)} {k : Nat} {p : Int × Int} (h : spOK l k) (hp : l[k]? = some p) (ho : okS p) (hr : ∀ r, 0 < k → l[k - 1]? = some r → r.2 < p.1) : spOK l (k + 1) := by
  intro i q hi hq
  rcases Nat.lt_or_ge i k with h1 | h1
  · exact h i q h1 hq
  · obtain rfl : i = k := by omega
    rw [hp] at hq
    cases hq
    exact ⟨ho, hr⟩
def spansOK (l : List (Int × Int)) : Prop := spOK l l.length ∧ l.length ≤ 64
open Classical in
noncomputable def spansB (l : List (Int × Int)) : Bool := decide (spansOK l)
def shIn (lo hi : Int) (p : Int × Int) (x : Int) : Bool := (decide (p.1 ≤ x + lo) && decide (x + lo ≤ p.2)) && (decide (p.1 ≤ x + hi) && decide (x + hi ≤ p.2))
def hoIn (p : Int × Int) (y : Int) : Bool := decide (p.1 ≤ y) && decide (y ≤ p.2)
def oneS (s h : List Int) (lo hi : Int) (p : Int × Int) : Int := (s.countP (shIn lo hi p) : Int) - (h.countP (hoIn p) : Int)
def showsV (s h : List Int) (lo hi : Int) (l : List (Int × Int)) : Int := (l.map (oneS s h lo hi)).sum
theorem cp_step {l : List Int} {j : Nat} {x : Int} (p : Int → Bool) (h : l[j]? = some x) : (l.take (j + 1)).countP p = (l.take j).countP p + (if p x then 1 else 0) := by
  rw [List.take_add_one, h, Option.toList_some, List.countP_append]
  simp [List.countP_cons]
theorem shows_step {s h : List Int} {lo hi : Int} {l : List (Int × Int)} {k : Nat} {p : Int × Int} (hk : l[k]? = some p) : showsV s h lo hi (l.take (k + 1)) = showsV s h lo hi (l.take k) + oneS s h lo hi p := by
  unfold showsV
  rw [List.take_add_one, hk]
  simp
theorem one_bound (s h : List Int) (lo hi : Int) (p : Int × Int) : -(h.length : Int) ≤ oneS s h lo hi p ∧ oneS s h lo hi p ≤ (s.length : Int) := by
  unfold oneS
  have a : s.countP (shIn lo hi p) ≤ s.length := List.countP_le_length
  have b : h.countP (hoIn p) ≤ h.length := List.countP_le_length
  omega
theorem shows_bound (s h : List Int) (lo hi : Int) : ∀ l : List (Int × Int), s.length ≤ 64 → h.length ≤ 64 → -(64 * l.length : Int) ≤ showsV s h lo hi l ∧ showsV s h lo hi l ≤ 64 * l.length
  | [], _, _ => by simp [showsV]
  | p :: l, h1, h2 => by
    have ih := shows_bound s h lo hi l h1 h2
    have := one_bound s h lo hi p
    have e : showsV s h lo hi (p :: l) = oneS s h lo hi p + showsV s h lo hi l := by simp [showsV]
    rw [e, List.length_cons]
    omega
end Go.Proofs.Ytpklcjbdmikbdaa
namespace Go.Proofs.Ytpklcjbdmikbdaa
open Go.RowKit

theorem rspan_okS {p : Int × Int} : rspanB p.1 p.2 2000000 = true ↔ okS p := by
  unfold rspanB inB okS
  simp only [Bool.and_eq_true, decide_eq_true_eq]
  omega
theorem spansB_true {l : List (Int × Int)} (h : spansOK l) : spansB l = true := by unfold spansB; simp [h]
theorem spansB_false {l : List (Int × Int)} (h : ¬ spansOK l) : spansB l = false := by unfold spansB; simp [h]
theorem spans_not {l : List (Int × Int)} {k : Nat} {p : Int × Int} (hk : l[k]? = some p) (h : ¬ (okS p ∧ ∀ r, 0 < k → l[k - 1]? = some r → r.2 < p.1)) : ¬ spansOK l := fun ⟨h1, _⟩ => h (h1 k p (List.getElem?_eq_some_iff.1 hk).1 hk)
set_option maxRecDepth 100000 in
set_option maxHeartbeats 8000000 in
theorem rSpans_any (A : Option Addr) (n c : Nat) (l : List (Int × Int)) (w : World) (rA : SpansH w A n l) (hn : n ≤ 1000) : Calls Try.prog 36 #[.slice A n c] w fun e w' => e = .returned (.bool (spansB l)) ∧ Below w.heap.size w w' := by
  have HAn := Lib.hid rA.1
  by_cases h64 : n ≤ 64
  · have d64 : decide ((n : Int) > 64) = false := decide_eq_false (by omega)
    go_enter Try.func36, Try.ntmps36
    go_wp2_with fail
    go_loopw [3] (fun i wr => ∃ k : Nat, k ≤ n ∧ i = .int .i64 k ∧ Hid (spOK l k) ∧ Below w.heap.size w wr) (fun i _ => n - (RowKit.intOf i).toNat)
    case atStart => exact ⟨0, Nat.zero_le _, rfl, spOK_zero l, Below.refl _ _⟩
    case round =>
      obtain ⟨k, hk, rfl, hS, hb⟩ := hrel
      by_cases hlt : k < n
      · obtain ⟨g, p, rfl, hg, hlk, hp1, hp2⟩ := (rA.later hb).at_ hlt
        have hkn : (k : Int) < (n : Int) := by omega
        have hd : decide ((k : Int) < (n : Int)) = true := decide_eq_true hkn
        have HLK := Lib.hid hlk
        clear hlk
        have hxl := later_cell (w := wr)
        cases hsp : rspanB p.1 p.2 2000000 with
        | false =>
          have HM : Hid (∀ w, Calls Try.prog 30 #[.agg #[.int .i64 p.1, .int .i64 p.2], .int .i64 2000000] w fun e w' => e = .returned (.bool false) ∧ Below w.heap.size w w') := fun w => by have := rSpan_any p.1 p.2 2000000 w (by omega) (by omega); rw [hsp] at this; exact this
          have HR : Hid (spansB l = false) := spansB_false (spans_not HLK.out fun h => by rw [rspan_okS.2 h.1] at hsp; cases hsp)
          clear hsp hS
          go_wp2_with fail
          refine wp_region_later (by kernel_rfl) (by kernel_rfl) ?_
          repeat (go_big_quiet_step ((go_at_call 30; exact later_call (HM.out _))))
          refine wpQuiet_nil ?_
          rintro w2 ⟨⟨_, hb2⟩, rfl⟩
          have hb3 := hb.trans (hb2.mono hb.size)
          clear hxl hp1 hp2 hb hb2 HM
          go_wp2_with fail
          go_ret
          exact ⟨by rw [HR.out]; rfl, hb3⟩
        | true =>
          have HM : Hid (∀ w, Calls Try.prog 30 #[.agg #[.int .i64 p.1, .int .i64 p.2], .int .i64 2000000] w fun e w' => e = .returned (.bool true) ∧ Below w.heap.size w w') := fun w => by have := rSpan_any p.1 p.2 2000000 w (by omega) (by omega); rw [hsp] at this; exact this
          have HOK := Lib.hid (rspan_okS.1 hsp)
          clear hsp
          rcases Nat.eq_zero_or_pos k with hk0 | hk0
          · subst hk0
            have HS2 := Lib.hid (spOK_step hS.out HLK.out HOK.out (fun r h => absurd h (by omega)))
            have d0 : decide ((0 : Int) > 0) = false := by decide
            clear hS
            go_wp2_with fail
            refine wp_region_later (by kernel_rfl) (by kernel_rfl) ?_
            repeat (go_big_quiet_step ((go_at_call 30; exact later_call (HM.out _))))
            refine wpQuiet_nil ?_
            rintro w2 ⟨⟨_, hb2⟩, rfl⟩
            have hb3 := hb.trans (hb2.mono hb.size)
            clear hxl hp1 hp2 hb hb2 HM
            go_wp2_with fail
            go_roundw
            case rel => exact ⟨0 + 1, by omega, by go_num, HS2.out, hb3⟩
            case measure => simp [RowKit.intOf]; omega
          · obtain ⟨q, rfl⟩ : ∃ q, k = q + 1 := ⟨k - 1, by omega⟩
            obtain ⟨g', r, e1, _, hlr, hr1, hr2⟩ := (rA.later hb).at_ (show q < n by omega)
            cases e1
            have HLR := Lib.hid hlr
            have d0 : decide (((q + 1 : Nat) : Int) > 0) = true := by rw [decide_eq_true_eq]; omega
            have hq1 : (((q + 1 : Nat) : Int)) - 1 = (q : Int) := by omega
            have hqn : (q : Int) < (n : Int) := by omega
            clear hlr
            by_cases hlr : p.1 ≤ r.2
            · have d1 : decide (p.1 ≤ r.2) = true := decide_eq_true hlr
              have HR : Hid (spansB l = false) := spansB_false (spans_not HLK.out fun h => by
                have := h.2 r (by omega) (by rw [show q + 1 - 1 = q by omega]; exact HLR.out)
                omega)
              clear hS
              go_wp2_with fail
              refine wp_region_later (by kernel_rfl) (by kernel_rfl) ?_
              repeat (go_big_quiet_step ((go_at_call 30; exact later_call (HM.out _))))
              refine wpQuiet_nil ?_
              rintro w2 ⟨⟨_, hb2⟩, rfl⟩
              have hb3 := hb.trans (hb2.mono hb.size)
              clear hxl hp1 hp2 hb hb2 HM hr1 hr2
              go_wp2_with fail
              go_ret
              exact ⟨by rw [HR.out]; rfl, hb3⟩
            · have d1 : decide (p.1 ≤ r.2) = false := decide_eq_false hlr
              have HS2 := Lib.hid (spOK_step hS.out HLK.out HOK.out (fun r' _ h => by
                rw [show q + 1 - 1 = q by omega, HLR.out] at h
                cases h
                omega))
              clear hS
              go_wp2_with fail
              refine wp_region_later (by kernel_rfl) (by kernel_rfl) ?_
              repeat (go_big_quiet_step ((go_at_call 30; exact later_call (HM.out _))))
              refine wpQuiet_nil ?_
              rintro w2 ⟨⟨_, hb2⟩, rfl⟩
              have hb3 := hb.trans (hb2.mono hb.size)
              clear hxl hp1 hp2 hb hb2 HM hr1 hr2
              go_wp2_with fail
              go_roundw
              case rel => exact ⟨q + 1 + 1, by omega, by go_num, HS2.out, hb3⟩
              case measure => simp [RowKit.intOf]; omega
      · obtain rfl : k = n := by omega
        have HR : Hid (spansB l = true) := spansB_true ⟨by rw [HAn.out]; exact hS.out, by rw [HAn.out]; exact h64⟩
        clear hS
        go_wp2_with fail
        go_ret
        exact ⟨by rw [HR.out]; rfl, hb⟩
  · have d64 : decide ((n : Int) > 64) = true := decide_eq_true (by omega)
    have HR : Hid (spansB l = false) := spansB_false fun h => by have := h.2; rw [HAn.out] at this; exact h64 this
    go_enter Try.func36, Try.ntmps36
    go_wp2_with fail
    go_ret
    exact ⟨by rw [HR.out]; rfl, Below.refl _ _⟩
end Go.Proofs.Ytpklcjbdmikbdaa
namespace Go.Proofs.Ytpklcjbdmikbdaa
open Go.RowKit

theorem size_of {l : List Int} (h : Sizes l) {k : Nat} {x : Int} (hx : l[k]? = some x) : -1000000 ≤ x ∧ x ≤ 1000000 := h x (List.mem_of_getElem? hx)
theorem RowH.get_ {w : World} {A : Option Addr} {n k : Nat} {l : List Int} (h : RowH w A n l) (hk : k < n) : ∃ g x, A = some ⟨g, 0, none⟩ ∧ g < w.heap.size ∧ l[k]? = some x ∧ w.cell? ⟨g, k, none⟩ = some (.int .i64 x) := by
  obtain ⟨g, e, hg, hc⟩ := h.2 (by omega)
  have hl : k < l.length := by have := h.1; omega
  exact ⟨g, l[k], e, hg, List.getElem?_eq_getElem hl, hc k _ (List.getElem?_eq_getElem hl)⟩
theorem cp_bound (l : List Int) (j : Nat) (p : Int → Bool) (h : l.length ≤ 64) : (l.take j).countP p ≤ 64 := by
  have a : (l.take j).countP p ≤ (l.take j).length := List.countP_le_length
  have b : (l.take j).length ≤ l.length := by rw [List.length_take]; omega
  omega
set_option maxRecDepth 100000 in
set_option maxHeartbeats 16000000 in
theorem rShows_any (A B S : Option Addr) (n c m d q e0 : Nat) (s t : List Int) (lo hi : Int) (l : List (Int × Int)) (w : World) (rA : RowH w A n s) (rB : RowH w B m t) (rS : SpansH w S q l) (hs : Sizes s) (ht : Sizes t) (hn : n ≤ 64) (hm : m ≤ 64) (hq : q ≤ 64) (hsp : spanB lo hi = true) (hl : spOK l q) :
    Calls Try.prog 37 #[.slice A n c, .slice B m d, .agg #[.int .i64 lo, .int .i64 hi], .slice S q e0] w fun e w' => e = .returned (.int .i64 (showsV s t lo hi l)) ∧ Below w.heap.size w w' := by
  obtain ⟨s1, s2, s3⟩ := spanB_iff.1 hsp
  have HAn := Lib.hid rA.1
  have HBn := Lib.hid rB.1
  have HSn := Lib.hid rS.1
  have HS := Lib.hid hs
  have HT := Lib.hid ht
  have HL := Lib.hid hl
  have kC := Blk.new w 26 #[.int .i64 lo, .int .i64 hi]
  have hb0 : Below w.heap.size w (w.alloc (.cells #[.int .i64 lo, .int .i64 hi] 26)) := (Below.refl _ _).alloc (Nat.le_refl _) _
  have hV0 : Hid ((0 : Int) = showsV s t lo hi (l.take 0)) := rfl
  clear hs ht hl hsp
  go_enter Try.func37, Try.ntmps37
  go_upto_region 1 with fail
  revert kC hb0
  generalize w.alloc (.cells #[.int .i64 lo, .int .i64 hi] 26) = w1
  intro kC hb0
  go_wp2_with fail
  go_loopw [9, 10, 11, 12] (fun v i _ _ wr => ∃ (k : Nat) (V : Int), k ≤ q ∧ i = .int .i64 k ∧ v = .int .i64 V ∧ Hid (V = showsV s t lo hi (l.take k)) ∧ Below w1.heap.size w1 wr) (fun _ i _ _ _ => q - (RowKit.intOf i).toNat)
  case atStart => exact ⟨0, 0, Nat.zero_le _, rfl, rfl, hV0, Below.refl _ _⟩
  case round =>
    clear hV0
    obtain ⟨wo, hwo⟩ : ∃ x, x = wr := ⟨_, rfl⟩
    subst hwo
    obtain ⟨k, V, hk, rfl, rfl, hV, hb1w⟩ := hrel
    have hb := hb1w
    have hbw := hb0.trans (hb.mono hb0.size)
    by_cases hlt : k < q
    · obtain ⟨gs, p, rfl, hgs, hlk, hp1, hp2⟩ := (rS.later hbw).at_ hlt
      have hd : decide ((k : Int) < (q : Int)) = true := decide_eq_true (by omega)
      have hki : (k : Int) < (q : Int) := by omega
      obtain ⟨o1, o2, o3⟩ := (HL.out k p hlt hlk).1
      have HLK := Lib.hid hlk
      have hVb : -4096 ≤ V ∧ V ≤ 4096 := by
        have h1 := shows_bound s t lo hi (l.take k) (by rw [HAn.out]; exact hn) (by rw [HBn.out]; exact hm)
        have h2 : (l.take k).length ≤ 64 := by rw [List.length_take, HSn.out]; omega
        rw [← hV.out] at h1
        omega
      have hVb1 := hVb.1
      have hVb2 := hVb.2
      clear hlk hVb
      go_wp2_with fail
      go_loopw [9, 11] (fun v i wx => ∃ (j : Nat) (U : Int), j ≤ n ∧ i = .int .i64 j ∧ v = .int .i64 U ∧ Hid (U = V + ((s.take j).countP (shIn lo hi p) : Nat)) ∧ Below wo.heap.size wo wx) (fun _ i _ => n - (RowKit.intOf i).toNat)
      case atStart => exact ⟨0, V, Nat.zero_le _, rfl, rfl, by show _ = _; simp, Below.refl _ _⟩
      case round =>
        obtain ⟨wx, hwx⟩ : ∃ x, x = wr := ⟨_, rfl⟩
        subst hwx
        obtain ⟨j, U, hj, rfl, rfl, hU, hb⟩ := hrel
        have hbx := hbw.trans (hb.mono hbw.size)
        by_cases hltj : j < n
        · obtain ⟨ga, x, rfl, hga, hx, hxc⟩ := (rA.later hbx).get_ hltj
          have hdj : decide ((j : Int) < (n : Int)) = true := decide_eq_true (by omega)
          have hji : (j : Int) < (n : Int) := by omega
          obtain ⟨x1, x2⟩ := size_of HS.out hx
          have kC2 := (kC.later hb1w).later hb
          have HX := Lib.hid hx
          have hUb : -8192 ≤ U ∧ U ≤ 8192 := by
            have := cp_bound s j (shIn lo hi p) (by rw [HAn.out]; exact hn)
            have := hU.out
            omega
          have hUb1 := hUb.1
          have hUb2 := hUb.2
          have cC := kC2.cell
          have lC := kC2.lt
          have q1 := hb.cell (p := ⟨gs, k * 2, none⟩) hgs
          have q2 := hb.cell (p := ⟨gs, k * 2 + 1, none⟩) hgs
          rw [hp1] at q1
          rw [hp2] at q2
          have hgs2 : gs < wx.heap.size := Nat.lt_of_lt_of_le hgs hb.size
          have hxl := later_cell (w := wx)
          have HM1 := Lib.hid (fun w => rin_any (x + lo) p.1 p.2 w)
          have HM2 := Lib.hid (fun w => rin_any (x + hi) p.1 p.2 w)
          obtain ⟨b1, hb1⟩ : ∃ b, (decide (p.1 ≤ x + lo) && decide (x + lo ≤ p.2)) = b := ⟨_, rfl⟩
          obtain ⟨b2, hb2⟩ : ∃ b, (decide (p.1 ≤ x + hi) && decide (x + hi ≤ p.2)) = b := ⟨_, rfl⟩
          rw [hb1] at HM1
          rw [hb2] at HM2
          have HN : Hid ((if (b1 && b2) = true then U + 1 else U) = V + ((s.take (j + 1)).countP (shIn lo hi p) : Nat)) := by
            show _ = _
            rw [cp_step _ HX.out, hU.out]
            unfold shIn
            rw [hb1, hb2]
            cases b1 <;> cases b2 <;> simp <;> omega
          clear hb1 hb2 hx hUb kC2 hU
          cases b1
          · have HN := Lib.hid (show U = V + _ from HN.out)
            go_wp2_with fail
            refine wp_region_later (by kernel_rfl) (by kernel_rfl) ?_
            repeat (go_big_quiet_step ((go_at_call 60; first | (with_reducible exact later_same (HM1.out _)) | (with_reducible exact later_same (HM2.out _)))))
            refine wpQuiet_nil ?_
            rintro w2 ⟨⟨_, hb2⟩, rfl⟩
            have hb3 := hb.trans (hb2.mono hb.size)
            clear hxl hxc q1 q2 HM1 HM2 hb hb2
            go_wp2_with fail
            go_roundw
            case rel => exact ⟨j + 1, U, by omega, by go_num, by first | rfl | go_num, HN.out, hb3⟩
            case measure => simp [RowKit.intOf]; omega
          · cases b2
            · have HN := Lib.hid (show U = V + _ from HN.out)
              go_wp2_with fail
              refine wp_region_later (by kernel_rfl) (by kernel_rfl) ?_
              repeat (go_big_quiet_step ((go_at_call 60; first | (with_reducible exact later_same (HM1.out _)) | (with_reducible exact later_same (HM2.out _)))))
              refine wpQuiet_nil ?_
              rintro w2 ⟨⟨_, hb2⟩, rfl⟩
              have hb3 := hb.trans (hb2.mono hb.size)
              clear hxl hxc q1 q2 HM1 HM2 hb hb2
              go_wp2_with fail
              go_roundw
              case rel => exact ⟨j + 1, U, by omega, by go_num, by first | rfl | go_num, HN.out, hb3⟩
              case measure => simp [RowKit.intOf]; omega
            · have HN := Lib.hid (show U + 1 = V + _ from HN.out)
              go_wp2_with fail
              refine wp_region_later (by kernel_rfl) (by kernel_rfl) ?_
              repeat (go_big_quiet_step ((go_at_call 60; first | (with_reducible exact later_same (HM1.out _)) | (with_reducible exact later_same (HM2.out _)))))
              refine wpQuiet_nil ?_
              rintro w2 ⟨⟨_, hb2⟩, rfl⟩
              have hb3 := hb.trans (hb2.mono hb.size)
              clear hxl hxc q1 q2 HM1 HM2 hb hb2
              go_wp2_with fail
              go_roundw
              case rel => exact ⟨j + 1, U + 1, by omega, by go_num, by first | rfl | go_num, HN.out, hb3⟩
              case measure => simp [RowKit.intOf]; omega
        · obtain rfl : j = n := by omega
          have hdj : decide ((j : Int) < (j : Int)) = false := decide_eq_false (by omega)
          have HU2 : Hid (U = V + (s.countP (shIn lo hi p) : Nat)) := by
            have := hU.out
            rwa [← HAn.out, List.take_length] at this
          have hUb : -8192 ≤ U ∧ U ≤ 8192 := by
            have := cp_bound s j (shIn lo hi p) (by rw [HAn.out]; exact hn)
            have := hU.out
            omega
          have hUb1 := hUb.1
          have hUb2 := hUb.2
          clear hU hUb
          have q1 := hb.cell (p := ⟨gs, k * 2, none⟩) hgs
          have q2 := hb.cell (p := ⟨gs, k * 2 + 1, none⟩) hgs
          rw [hp1] at q1
          rw [hp2] at q2
          have hgs2 : gs < wx.heap.size := Nat.lt_of_lt_of_le hgs hb.size
          have hbr := hb
          clear hp1 hp2 hb
          go_wp2_with fail
          go_loopw [9, 12] (fun v i wy => ∃ (r : Nat) (T : Int), r ≤ m ∧ i = .int .i64 r ∧ v = .int .i64 T ∧ Hid (T = U - ((t.take r).countP (hoIn p) : Nat)) ∧ Below wx.heap.size wx wy) (fun _ i _ => m - (RowKit.intOf i).toNat)
          case atStart => exact ⟨0, U, Nat.zero_le _, rfl, rfl, by show _ = _; simp, Below.refl _ _⟩
          case round =>
            obtain ⟨wy, hwy⟩ : ∃ x, x = wr := ⟨_, rfl⟩
            subst hwy
            obtain ⟨r, T, hr, rfl, rfl, hT, hb⟩ := hrel
            have hby := hbx.trans (hb.mono hbx.size)
            by_cases hltr : r < m
            · obtain ⟨gb, y, rfl, hgb, hy, hyc⟩ := (rB.later hby).get_ hltr
              have hdr : decide ((r : Int) < (m : Int)) = true := decide_eq_true (by omega)
              have hri : (r : Int) < (m : Int) := by omega
              have HY := Lib.hid hy
              have hTb : -16384 ≤ T ∧ T ≤ 16384 := by
                have := cp_bound t r (hoIn p) (by rw [HBn.out]; exact hm)
                have := hT.out
                omega
              have hTb1 := hTb.1
              have hTb2 := hTb.2
              have q3 := hb.cell (p := ⟨gs, k * 2, none⟩) hgs2
              have q4 := hb.cell (p := ⟨gs, k * 2 + 1, none⟩) hgs2
              rw [q1] at q3
              rw [q2] at q4
              have hgs3 : gs < wy.heap.size := Nat.lt_of_lt_of_le hgs2 hb.size
              have hxl := later_cell (w := wy)
              have HM1 := Lib.hid (fun w => rin_any y p.1 p.2 w)
              obtain ⟨b1, hb1⟩ : ∃ b, (decide (p.1 ≤ y) && decide (y ≤ p.2)) = b := ⟨_, rfl⟩
              rw [hb1] at HM1
              have HN : Hid ((if b1 = true then T - 1 else T) = U - ((t.take (r + 1)).countP (hoIn p) : Nat)) := by
                show _ = _
                rw [cp_step _ HY.out, hT.out]
                unfold hoIn
                rw [hb1]
                cases b1 <;> simp <;> omega
              clear hb1 hy hTb hT q1 q2
              cases b1
              · have HN := Lib.hid (show T = U - _ from HN.out)
                go_wp2_with fail
                refine wp_region_later (by kernel_rfl) (by kernel_rfl) ?_
                repeat (go_big_quiet_step ((go_at_call 60; exact later_same (HM1.out _))))
                refine wpQuiet_nil ?_
                rintro w2 ⟨⟨_, hb2⟩, rfl⟩
                have hb3 := hb.trans (hb2.mono hb.size)
                clear hxl hyc q3 q4 HM1 hb hb2
                go_wp2_with fail
                go_roundw
                case rel => exact ⟨r + 1, T, by omega, by go_num, by first | rfl | go_num, HN.out, hb3⟩
                case measure => simp [RowKit.intOf]; omega
              · have HN := Lib.hid (show T - 1 = U - _ from HN.out)
                go_wp2_with fail
                refine wp_region_later (by kernel_rfl) (by kernel_rfl) ?_
                repeat (go_big_quiet_step ((go_at_call 60; exact later_same (HM1.out _))))
                refine wpQuiet_nil ?_
                rintro w2 ⟨⟨_, hb2⟩, rfl⟩
                have hb3 := hb.trans (hb2.mono hb.size)
                clear hxl hyc q3 q4 HM1 hb hb2
                go_wp2_with fail
                go_roundw
                case rel => exact ⟨r + 1, T - 1, by omega, by go_num, by first | rfl | go_num, HN.out, hb3⟩
                case measure => simp [RowKit.intOf]; omega
            · obtain rfl : r = m := by omega
              have hdr : decide ((r : Int) < (r : Int)) = false := decide_eq_false (by omega)
              have HN : Hid (T = showsV s t lo hi (l.take (k + 1))) := by
                show _ = _
                rw [shows_step HLK.out, ← hV.out, hT.out, HU2.out, ← HBn.out, List.take_length]
                unfold oneS
                omega
              have hbq := hb1w.trans ((hbr.trans (hb.mono hbr.size)).mono hb1w.size)
              clear hT
              go_wp2_with fail
              go_roundw
              case rel => exact ⟨k + 1, T, by omega, by go_num, rfl, HN, hbq⟩
              case measure => simp [RowKit.intOf]; omega
    · obtain rfl : k = q := by omega
      have hd : decide ((k : Int) < (k : Int)) = false := decide_eq_false (by omega)
      have HF : Hid (V = showsV s t lo hi l) := by
        have := hV.out
        rwa [← HSn.out, List.take_length] at this
      clear hV
      go_wp2_with fail
      go_ret
      exact ⟨by rw [← HF.out]; rfl, hbw⟩
end Go.Proofs.Ytpklcjbdmikbdaa
namespace Go.Proofs.Ytpklcjbdmikbdaa
open Go.RowKit

set_option maxHeartbeats 2000000 in
theorem shows_no (A B S : Option Addr) (c d q e0 : Nat) (s t : List Int) (lo hi : Int) (w : World) (rA : RowH w A s.length s) (rB : RowH w B t.length t) (hn : s.length ≤ 1000) (hm : t.length ≤ 1000) (hv : piecesB s t lo hi = false) :
    Calls Try.prog 35 #[.slice A s.length c, .slice B t.length d, .agg #[.int .i64 lo, .int .i64 hi], .slice S q e0] w fun e w' => e = .returned (.tuple #[.int .i64 0, .int .i64 1]) ∧ Below w.heap.size w w' := by
  have kC := Blk.new w 26 #[.int .i64 lo, .int .i64 hi]
  have hb0 : Below w.heap.size w (w.alloc (.cells #[.int .i64 lo, .int .i64 hi] 26)) := (Below.refl _ _).alloc (Nat.le_refl _) _
  have M := pieces_any A B c d s t lo hi _ (rA.later hb0).rowI (rB.later hb0).rowI (by omega) (by omega)
  rw [hv] at M
  have HM := Lib.hid M
  clear M hv
  go_enter Try.func35, Try.ntmps35
  go_wp2_with fail
  refine HM.out.mono ?_
  rintro e w2 ⟨rfl, hb2⟩
  have hb3 := hb0.trans (hb2.mono hb0.size)
  clear HM hb0 hb2 kC
  go_wp2_with fail
  go_ret2
  exact ⟨rfl, hb3⟩
/-- What Shows returns of valid pieces. -/
def ShowR (s t : List Int) (lo hi : Int) (l : List (Int × Int)) (w : World) (e : Ending) (w' : World) : Prop :=
  (e = .returned (.tuple #[.int .i64 0, .int .i64 2]) ∧ ¬ spansOK l ∧ Below w.heap.size w w') ∨ (e = .returned (.tuple #[.int .i64 (showsV s t lo hi l), .int .i64 0]) ∧ spansOK l ∧ Below w.heap.size w w')
set_option maxRecDepth 100000 in
set_option maxHeartbeats 16000000 in
theorem shows_any (A B S : Option Addr) (c d q e0 : Nat) (s t : List Int) (lo hi : Int) (l : List (Int × Int)) (w : World) (rA : RowH w A s.length s) (rB : RowH w B t.length t) (rS : SpansH w S q l) (hq : q ≤ 1000) (hv : piecesB s t lo hi = true) :
    Calls Try.prog 35 #[.slice A s.length c, .slice B t.length d, .agg #[.int .i64 lo, .int .i64 hi], .slice S q e0] w (ShowR s t lo hi l w) := by
  obtain ⟨hs, ht, hn, hm, hsp⟩ := piecesB_iff.1 hv
  obtain ⟨s1, s2, s3⟩ := spanB_iff.1 hsp
  have HSn := Lib.hid rS.1
  have HS := Lib.hid hs
  have HT := Lib.hid ht
  have kC := Blk.new w 26 #[.int .i64 lo, .int .i64 hi]
  have hb0 : Below w.heap.size w (w.alloc (.cells #[.int .i64 lo, .int .i64 hi] 26)) := (Below.refl _ _).alloc (Nat.le_refl _) _
  have M := pieces_any A B c d s t lo hi _ (rA.later hb0).rowI (rB.later hb0).rowI (by omega) (by omega)
  rw [hv] at M
  obtain ⟨n, hAn⟩ : ∃ n, s.length = n := ⟨_, rfl⟩
  obtain ⟨m, hBn⟩ : ∃ m, t.length = m := ⟨_, rfl⟩
  have HAn := Lib.hid hAn
  have HBn := Lib.hid hBn
  rw [hAn] at rA hn
  rw [hBn] at rB hm
  rw [hAn, hBn] at M ⊢
  have HM := Lib.hid M
  clear hAn hBn
  have hV0 : Hid ((0 : Int) = showsV s t lo hi (l.take 0)) := rfl
  clear hs ht hsp hv M
  go_enter Try.func35, Try.ntmps35
  go_upto_region 1 with fail
  revert kC hb0 HM
  generalize w.alloc (.cells #[.int .i64 lo, .int .i64 hi] 26) = w1
  intro kC hb0 HM
  have cC := kC.cell
  have lC := kC.lt
  go_wp2_with fail
  refine HM.out.mono ?_
  rintro e w3 ⟨rfl, hbp⟩
  replace kC := kC.later hbp
  replace hb0 := hb0.trans (hbp.mono hb0.size)
  clear HM hbp cC lC
  have rA := rA.later hb0
  have rB := rB.later hb0
  have rS := rS.later hb0
  go_wp2_with fail
  go_loopw [10, 11, 26] (fun _ _ i wr => ∃ k : Nat, k ≤ q ∧ i = .int .i64 k ∧ Hid (spOK l k) ∧ Below w3.heap.size w3 wr) (fun _ _ i _ => q - (RowKit.intOf i).toNat)
  case atStart => exact ⟨0, Nat.zero_le _, rfl, spOK_zero l, Below.refl _ _⟩
  case round =>
    obtain ⟨wo, hwo⟩ : ∃ x, x = wr := ⟨_, rfl⟩
    subst hwo
    obtain ⟨k, hk, rfl, hO, hb⟩ := hrel
    by_cases hlt : k < q
    · obtain ⟨g, p, rfl, hg, hlk, hp1, hp2⟩ := (rS.later hb).at_ hlt
      have hkn : (k : Int) < (q : Int) := by omega
      have hd : decide ((k : Int) < (q : Int)) = true := decide_eq_true hkn
      have HLK := Lib.hid hlk
      have kS := Blk.new wo 26 #[.int .i64 p.1, .int .i64 p.2]
      have hbn : Below wo.heap.size wo (wo.alloc (.cells #[.int .i64 p.1, .int .i64 p.2] 26)) := (Below.refl _ _).alloc (Nat.le_refl _) _
      have rS2 := (rS.later hb).later hbn
      have hbk := hb.trans (hbn.mono hb.size)
      clear hlk kC hV0 hbn
      go_upto_region 6 with fail
      revert kS rS2 hbk
      generalize wo.alloc (.cells #[.int .i64 p.1, .int .i64 p.2] 26) = wk
      generalize wo.heap.size = SB
      clear hp1 hp2 hb hg
      intro kS rS2 hbk
      have hb := hb0.trans (hbk.mono hb0.size)
      have hp1 := hb
      have hp2 := hb
      have cS := kS.cell
      have lS := kS.lt
      have hxl := later_cell (w := wk)
      have HM1 := Lib.hid (fun w => within_any p.1 2000000 w (by omega) (by omega))
      have HM2 := Lib.hid (fun w => within_any p.2 2000000 w (by omega) (by omega))
      obtain ⟨b1, hb1⟩ : ∃ b, (decide (-2000000 ≤ p.1) && decide (p.1 ≤ 2000000)) = b := ⟨_, rfl⟩
      obtain ⟨b2, hb2⟩ : ∃ b, (decide (-2000000 ≤ p.2) && decide (p.2 ≤ 2000000)) = b := ⟨_, rfl⟩
      rw [hb1] at HM1
      rw [hb2] at HM2
      have HO : Hid (okS p ↔ (b1 = true ∧ b2 = true ∧ p.1 ≤ p.2)) := by
        show _ ↔ _
        rw [← hb1, ← hb2]
        unfold okS
        simp only [Bool.and_eq_true, decide_eq_true_eq]
        omega
      clear hb1 hb2
      cases b1 with
      | false =>
        have HR : Hid (¬ spansOK l) := spans_not HLK.out fun h => by have := (HO.out.1 h.1).1; cases this
        clear hO HO rS2
        go_wp2_with fail
        refine wp_region_later (by kernel_rfl) (by kernel_rfl) ?_
        repeat (go_big_quiet_step ((go_at_call 64; first | (with_reducible exact later_same (HM1.out _)) | (with_reducible exact later_same (HM2.out _)))))
        refine wpQuiet_nil ?_
        rintro w2 ⟨⟨_, hb2⟩, rfl⟩
        have hb3 := hb.trans (hb2.mono hb.size)
        clear hxl cS lS hp1 hp2 hb hb2 HM1 HM2
        go_wp2_with fail
        go_ret2
        exact .inl ⟨rfl, HR.out, hb3⟩
      | true =>
        cases b2 with
        | false =>
          have HR : Hid (¬ spansOK l) := spans_not HLK.out fun h => by have := (HO.out.1 h.1).2.1; cases this
          clear hO HO rS2
          go_wp2_with fail
          refine wp_region_later (by kernel_rfl) (by kernel_rfl) ?_
          repeat (go_big_quiet_step ((go_at_call 64; first | (with_reducible exact later_same (HM1.out _)) | (with_reducible exact later_same (HM2.out _)))))
          refine wpQuiet_nil ?_
          rintro w2 ⟨⟨_, hb2⟩, rfl⟩
          have hb3 := hb.trans (hb2.mono hb.size)
          clear hxl cS lS hp1 hp2 hb hb2 HM1 HM2
          go_wp2_with fail
          go_ret2
          exact .inl ⟨rfl, HR.out, hb3⟩
        | true =>
          by_cases hle : p.1 ≤ p.2
          · have d2 : decide (p.1 > p.2) = false := decide_eq_false (by omega)
            have HOK : Hid (okS p) := HO.out.2 ⟨rfl, rfl, hle⟩
            rcases Nat.eq_zero_or_pos k with hk0 | hk0
            · subst hk0
              have HS2 := Lib.hid (spOK_step hO.out HLK.out HOK.out (fun r h => absurd h (by omega)))
              have d0 : decide ((0 : Int) > 0) = false := by decide
              clear hO HO rS2
              go_wp2_with fail
              refine wp_region_later (by kernel_rfl) (by kernel_rfl) ?_
              repeat (go_big_quiet_step ((go_at_call 64; first | (with_reducible exact later_same (HM1.out _)) | (with_reducible exact later_same (HM2.out _)))))
              refine wpQuiet_nil ?_
              rintro w2 ⟨⟨_, hb2⟩, rfl⟩
              have hb2x := hb2
              clear hxl cS lS hp1 hp2 hb hb2 HM1 HM2
              go_wp2_with fail
              go_roundw
              case rel => exact ⟨0 + 1, by omega, by go_num, HS2.out, hbk.trans (hb2x.mono hbk.size)⟩
              case measure => simp [RowKit.intOf]; omega
            · obtain ⟨q0, rfl⟩ : ∃ q0, k = q0 + 1 := ⟨k - 1, by omega⟩
              obtain ⟨g', r, e1, _, hlr, hr1, hr2⟩ := rS2.at_ (show q0 < q by omega)
              cases e1
              have HLR := Lib.hid hlr
              have d0 : decide (((q0 + 1 : Nat) : Int) > 0) = true := by rw [decide_eq_true_eq]; omega
              have hq1 : (((q0 + 1 : Nat) : Int)) - 1 = (q0 : Int) := by omega
              have hqn : (q0 : Int) < (q : Int) := by omega
              have hgx : g < wk.heap.size := by assumption
              clear hlr
              by_cases hlr : p.1 ≤ r.2
              · have d1 : decide (p.1 ≤ r.2) = true := decide_eq_true hlr
                have HR : Hid (¬ spansOK l) := spans_not HLK.out fun h => by
                  have := h.2 r (by omega) (by rw [show q0 + 1 - 1 = q0 by omega]; exact HLR.out)
                  omega
                clear hO HO rS2
                go_wp2_with fail
                refine wp_region_later (by kernel_rfl) (by kernel_rfl) ?_
                repeat (go_big_quiet_step ((go_at_call 64; first | (with_reducible exact later_same (HM1.out _)) | (with_reducible exact later_same (HM2.out _)))))
                refine wpQuiet_nil ?_
                rintro w2 ⟨⟨_, hb2⟩, rfl⟩
                have hb3 := hb.trans (hb2.mono hb.size)
                clear hxl cS lS hp1 hp2 hb hb2 HM1 HM2 hr1 hr2
                go_wp2_with fail
                go_ret2
                exact .inl ⟨rfl, HR.out, hb3⟩
              · have d1 : decide (p.1 ≤ r.2) = false := decide_eq_false hlr
                have HS2 := Lib.hid (spOK_step hO.out HLK.out HOK.out (fun r' _ h => by
                  rw [show q0 + 1 - 1 = q0 by omega, HLR.out] at h
                  cases h
                  omega))
                clear hO HO rS2
                go_wp2_with fail
                refine wp_region_later (by kernel_rfl) (by kernel_rfl) ?_
                repeat (go_big_quiet_step ((go_at_call 64; first | (with_reducible exact later_same (HM1.out _)) | (with_reducible exact later_same (HM2.out _)))))
                refine wpQuiet_nil ?_
                rintro w2 ⟨⟨_, hb2⟩, rfl⟩
                have hb2x := hb2
                clear hxl cS lS hp1 hp2 hb hb2 HM1 HM2 hr1 hr2
                go_wp2_with fail
                go_roundw
                case rel => exact ⟨q0 + 1 + 1, by omega, by go_num, HS2.out, hbk.trans (hb2x.mono hbk.size)⟩
                case measure => simp [RowKit.intOf]; omega
          · have d2 : decide (p.1 > p.2) = true := decide_eq_true (by omega)
            have HR : Hid (¬ spansOK l) := spans_not HLK.out fun h => hle (HO.out.1 h.1).2.2
            clear hO HO rS2
            go_wp2_with fail
            refine wp_region_later (by kernel_rfl) (by kernel_rfl) ?_
            repeat (go_big_quiet_step ((go_at_call 64; first | (with_reducible exact later_same (HM1.out _)) | (with_reducible exact later_same (HM2.out _)))))
            refine wpQuiet_nil ?_
            rintro w2 ⟨⟨_, hb2⟩, rfl⟩
            have hb3 := hb.trans (hb2.mono hb.size)
            clear hxl cS lS hp1 hp2 hb hb2 HM1 HM2
            go_wp2_with fail
            go_ret2
            exact .inl ⟨rfl, HR.out, hb3⟩
    · obtain rfl : k = q := by omega
      have hd : decide ((k : Int) < (k : Int)) = false := decide_eq_false (by omega)
      have hb00 := hb0.trans (hb.mono hb0.size)
      by_cases h64 : k ≤ 64
      · have d64 : decide ((k : Int) > 64) = false := decide_eq_false (by omega)
        have HOK : Hid (spansOK l) := ⟨by rw [HSn.out]; exact hO.out, by rw [HSn.out]; exact h64⟩
        have HL := hO
        replace kC := kC.later hb
        replace rA := rA.later hb
        replace rB := rB.later hb
        replace rS := rS.later hb
        clear hO hb0 hb
        go_wp2_with fail
        go_loopw [12, 14, 16, 18, 69] (fun v _ _ _ i wr => ∃ (j : Nat) (V : Int), j ≤ k ∧ i = .int .i64 j ∧ v = .int .i64 V ∧ Hid (V = showsV s t lo hi (l.take j)) ∧ Below wo.heap.size wo wr) (fun _ _ _ _ i _ => k - (RowKit.intOf i).toNat)
        case atStart => exact ⟨0, 0, Nat.zero_le _, rfl, rfl, hV0, Below.refl _ _⟩
        case round =>
          clear hV0
          obtain ⟨wa, hwa⟩ : ∃ x, x = wr := ⟨_, rfl⟩
          subst hwa
          obtain ⟨j, V, hj, rfl, rfl, hV, hb⟩ := hrel
          by_cases hltj : j < k
          · obtain ⟨gs, p, rfl, hgs, hlk, hp1, hp2⟩ := (rS.later hb).at_ hltj
            have hdj : decide ((j : Int) < (k : Int)) = true := decide_eq_true (by omega)
            have hji : (j : Int) < (k : Int) := by omega
            obtain ⟨o1, o2, o3⟩ := (HL.out j p hltj hlk).1
            have HLK := Lib.hid hlk
            have hVb : -4096 ≤ V ∧ V ≤ 4096 := by
              have h1 := shows_bound s t lo hi (l.take j) (by rw [HAn.out]; exact hn) (by rw [HBn.out]; exact hm)
              have h2 : (l.take j).length ≤ 64 := by rw [List.length_take, HSn.out]; omega
              rw [← hV.out] at h1
              omega
            have hVb1 := hVb.1
            have hVb2 := hVb.2
            have kS := Blk.new wa 26 #[.int .i64 p.1, .int .i64 p.2]
            have hbn : Below wa.heap.size wa (wa.alloc (.cells #[.int .i64 p.1, .int .i64 p.2] 26)) := (Below.refl _ _).alloc (Nat.le_refl _) _
            have hbk := hb.trans (hbn.mono hb.size)
            clear hlk hVb hbn
            go_upto_region 15 with fail
            revert kS hbk
            generalize wa.alloc (.cells #[.int .i64 p.1, .int .i64 p.2] 26) = wk
            generalize wa.heap.size = SB
            clear hp1 hp2 hb hgs
            intro kS hbk
            have kCk := kC.later hbk
            have rAk := rA.later hbk
            have rBk := rB.later hbk
            go_wp2_with fail
            go_loopw [12, 16, 75] (fun v _ i wr => ∃ (r : Nat) (U : Int), r ≤ n ∧ i = .int .i64 r ∧ v = .int .i64 U ∧ Hid (U = V + ((s.take r).countP (shIn lo hi p) : Nat)) ∧ Below wk.heap.size wk wr) (fun _ _ i _ => n - (RowKit.intOf i).toNat)
            case atStart => exact ⟨0, V, Nat.zero_le _, rfl, rfl, by show _ = _; simp, Below.refl _ _⟩
            case round =>
              obtain ⟨wx, hwx⟩ : ∃ x, x = wr := ⟨_, rfl⟩
              subst hwx
              obtain ⟨r, U, hr, rfl, rfl, hU, hb⟩ := hrel
              have hUb : -8192 ≤ U ∧ U ≤ 8192 := by
                have := cp_bound s r (shIn lo hi p) (by rw [HAn.out]; exact hn)
                have := hU.out
                omega
              have hUb1 := hUb.1
              have hUb2 := hUb.2
              clear hUb
              by_cases hltr : r < n
              · obtain ⟨ga, x, rfl, hga, hx, hxc⟩ := (rAk.later hb).get_ hltr
                have hdr : decide ((r : Int) < (n : Int)) = true := decide_eq_true (by omega)
                have hri : (r : Int) < (n : Int) := by omega
                obtain ⟨x1, x2⟩ := size_of HS.out hx
                have HX := Lib.hid hx
                have kC2 := kCk.later hb
                have kS2 := kS.later hb
                have HM1 := Lib.hid (fun w => inS_any (x + lo) p.1 p.2 w)
                have HM2 := Lib.hid (fun w => inS_any (x + hi) p.1 p.2 w)
                obtain ⟨b1, hb1⟩ : ∃ b, (decide (p.1 ≤ x + lo) && decide (x + lo ≤ p.2)) = b := ⟨_, rfl⟩
                obtain ⟨b2, hb2⟩ : ∃ b, (decide (p.1 ≤ x + hi) && decide (x + hi ≤ p.2)) = b := ⟨_, rfl⟩
                rw [hb1] at HM1
                rw [hb2] at HM2
                have HN : Hid ((if (b1 && b2) = true then U + 1 else U) = V + ((s.take (r + 1)).countP (shIn lo hi p) : Nat)) := by
                  show _ = _
                  rw [cp_step _ HX.out, hU.out]
                  unfold shIn
                  rw [hb1, hb2]
                  cases b1 <;> cases b2 <;> simp <;> omega
                clear hb1 hb2 hx hU
                have cC := kC2.cell
                have lC := kC2.lt
                have cS := kS2.cell
                have lS := kS2.lt
                cases b1
                · have HN := Lib.hid (show U = V + _ from HN.out)
                  go_wp2_with fail
                  refine (HM1.out _).mono ?_
                  rintro e w4 ⟨rfl, hbc⟩
                  have hb3 := hb.trans (hbc.mono hb.size)
                  clear HM1 HM2 cC lC cS lS hbc
                  go_wp2_with fail
                  go_roundw
                  case rel => exact ⟨r + 1, U, by omega, by go_num, rfl, HN.out, hb3⟩
                  case measure => simp [RowKit.intOf]; omega
                · cases b2
                  · have HN := Lib.hid (show U = V + _ from HN.out)
                    go_wp2_with fail
                    refine (HM1.out _).mono ?_
                    rintro e w4 ⟨rfl, hbc⟩
                    have hb3 := hb.trans (hbc.mono hb.size)
                    have kC3 := kC2.later hbc
                    have kS3 := kS2.later hbc
                    clear HM1 cC lC cS lS hbc
                    have cC := kC3.cell
                    have lC := kC3.lt
                    have cS := kS3.cell
                    have lS := kS3.lt
                    go_wp2_with fail
                    refine (HM2.out _).mono ?_
                    rintro e w5 ⟨rfl, hbd⟩
                    have hb4 := hb3.trans (hbd.mono hb3.size)
                    clear HM2 cC lC cS lS hbd
                    go_wp2_with fail
                    go_roundw
                    case rel => exact ⟨r + 1, U, by omega, by go_num, rfl, HN.out, hb4⟩
                    case measure => simp [RowKit.intOf]; omega
                  · have HN := Lib.hid (show U + 1 = V + _ from HN.out)
                    go_wp2_with fail
                    refine (HM1.out _).mono ?_
                    rintro e w4 ⟨rfl, hbc⟩
                    have hb3 := hb.trans (hbc.mono hb.size)
                    have kC3 := kC2.later hbc
                    have kS3 := kS2.later hbc
                    clear HM1 cC lC cS lS hbc
                    have cC := kC3.cell
                    have lC := kC3.lt
                    have cS := kS3.cell
                    have lS := kS3.lt
                    go_wp2_with fail
                    refine (HM2.out _).mono ?_
                    rintro e w5 ⟨rfl, hbd⟩
                    have hb4 := hb3.trans (hbd.mono hb3.size)
                    clear HM2 cC lC cS lS hbd
                    go_wp2_with fail
                    go_roundw
                    case rel => exact ⟨r + 1, U + 1, by omega, by go_num, by first | rfl | go_num, HN.out, hb4⟩
                    case measure => simp [RowKit.intOf]; omega
              · obtain rfl : r = n := by omega
                have hdr : decide ((r : Int) < (r : Int)) = false := decide_eq_false (by omega)
                have HU2 : Hid (U = V + (s.countP (shIn lo hi p) : Nat)) := by
                  have := hU.out
                  rwa [← HAn.out, List.take_length] at this
                have kSx := kS.later hb
                have rBx := rBk.later hb
                have hbx := hb
                clear hU hb
                go_wp2_with fail
                go_loopw [12, 18, 98] (fun v _ i wr => ∃ (r' : Nat) (T : Int), r' ≤ m ∧ i = .int .i64 r' ∧ v = .int .i64 T ∧ Hid (T = U - ((t.take r').countP (hoIn p) : Nat)) ∧ Below wx.heap.size wx wr) (fun _ _ i _ => m - (RowKit.intOf i).toNat)
                case atStart => exact ⟨0, U, Nat.zero_le _, rfl, rfl, by show _ = _; simp, Below.refl _ _⟩
                case round =>
                  obtain ⟨wy, hwy⟩ : ∃ x, x = wr := ⟨_, rfl⟩
                  subst hwy
                  obtain ⟨r', T, hr', rfl, rfl, hT, hb⟩ := hrel
                  have hTb : -16384 ≤ T ∧ T ≤ 16384 := by
                    have := cp_bound t r' (hoIn p) (by rw [HBn.out]; exact hm)
                    have := hT.out
                    omega
                  have hTb1 := hTb.1
                  have hTb2 := hTb.2
                  clear hTb
                  by_cases hltq : r' < m
                  · obtain ⟨gb, y, rfl, hgb, hy, hyc⟩ := (rBx.later hb).get_ hltq
                    have hdq : decide ((r' : Int) < (m : Int)) = true := decide_eq_true (by omega)
                    have hqi : (r' : Int) < (m : Int) := by omega
                    have HY := Lib.hid hy
                    have kS3 := kSx.later hb
                    have cS := kS3.cell
                    have lS := kS3.lt
                    have HM1 := Lib.hid (fun w => inS_any y p.1 p.2 w)
                    obtain ⟨b1, hb1⟩ : ∃ b, (decide (p.1 ≤ y) && decide (y ≤ p.2)) = b := ⟨_, rfl⟩
                    rw [hb1] at HM1
                    have HN : Hid ((if b1 = true then T - 1 else T) = U - ((t.take (r' + 1)).countP (hoIn p) : Nat)) := by
                      show _ = _
                      rw [cp_step _ HY.out, hT.out]
                      unfold hoIn
                      rw [hb1]
                      cases b1 <;> simp <;> omega
                    clear hb1 hy hT
                    cases b1
                    · have HN := Lib.hid (show T = U - _ from HN.out)
                      go_wp2_with fail
                      refine (HM1.out _).mono ?_
                      rintro e w4 ⟨rfl, hbc⟩
                      have hb3 := hb.trans (hbc.mono hb.size)
                      clear HM1 cS lS hbc
                      go_wp2_with fail
                      go_roundw
                      case rel => exact ⟨r' + 1, T, by omega, by go_num, rfl, HN.out, hb3⟩
                      case measure => simp [RowKit.intOf]; omega
                    · have HN := Lib.hid (show T - 1 = U - _ from HN.out)
                      go_wp2_with fail
                      refine (HM1.out _).mono ?_
                      rintro e w4 ⟨rfl, hbc⟩
                      have hb3 := hb.trans (hbc.mono hb.size)
                      clear HM1 cS lS hbc
                      go_wp2_with fail
                      go_roundw
                      case rel => exact ⟨r' + 1, T - 1, by omega, by go_num, by first | rfl | go_num, HN.out, hb3⟩
                      case measure => simp [RowKit.intOf]; omega
                  · obtain rfl : r' = m := by omega
                    have hdq : decide ((r' : Int) < (r' : Int)) = false := decide_eq_false (by omega)
                    have HN : Hid (T = showsV s t lo hi (l.take (j + 1))) := by
                      show _ = _
                      rw [shows_step HLK.out, ← hV.out, hT.out, HU2.out, ← HBn.out, List.take_length]
                      unfold oneS
                      omega
                    have hbq := hbk.trans ((hbx.trans (hb.mono hbx.size)).mono hbk.size)
                    clear hT
                    go_wp2_with fail
                    go_roundw
                    case rel => exact ⟨j + 1, T, by omega, by go_num, rfl, HN, hbq⟩
                    case measure => simp [RowKit.intOf]; omega
          · obtain rfl : j = k := by omega
            have hdj : decide ((j : Int) < (j : Int)) = false := decide_eq_false (by omega)
            have HF : Hid (V = showsV s t lo hi l) := by
              have := hV.out
              rwa [← HSn.out, List.take_length] at this
            clear hV
            go_wp2_with fail
            go_ret2
            exact .inr ⟨by rw [← HF.out]; rfl, HOK.out, hb00.trans (hb.mono hb00.size)⟩
      · have d64 : decide ((k : Int) > 64) = true := decide_eq_true (by omega)
        have HR : Hid (¬ spansOK l) := fun h => by have := h.2; rw [HSn.out] at this; exact h64 this
        clear hO rS
        go_wp2_with fail
        go_ret2
        exact .inl ⟨rfl, HR.out, hb00⟩
end Go.Proofs.Ytpklcjbdmikbdaa
namespace Go.Proofs.Ytpklcjbdmikbdaa.fitShows
open Go.RowKit

set_option maxRecDepth 100000 in
set_option maxHeartbeats 16000000 in
theorem walk (A B : Option Addr) (n c m d : Nat) (lo hi : Int) (P : Option Addr) (q e0 : Nat) (s t : List Int) (o : List (Int × Int)) (w : World) (hsA : RowI w A n s) (hcA : n ≤ c) (hnA : A = none → c = 0) (hsB : RowI w B m t) (hcB : m ≤ d) (hnB : B = none → d = 0) (hsP : SpansA w P q o) (hcP : q ≤ e0) (hnP : P = none → e0 = 0) :
    Calls Try.prog 9 #[.agg #[.slice A n c, .slice B m d, .int .i64 lo, .int .i64 hi], .slice P q e0] w fun e w' => e = .returned (.bool true) ∧ Below w.heap.size w w' := by
  have hb0 : Below w.heap.size w (w.alloc (.cells #[.slice A n c, .slice B m d, .int .i64 lo, .int .i64 hi] 37)) := (Below.refl _ _).alloc (Nat.le_refl _) _
  have kY := Blk.new w 37 #[.slice A n c, .slice B m d, .int .i64 lo, .int .i64 hi]
  have hSA : SrcI w A n c s := ⟨hsA, hcA, hnA⟩
  have hSB : SrcI w B m d t := ⟨hsB, hcB, hnB⟩
  have HF := Lib.hid (few_any A B n c m d 24 s t lo hi _ (hSA.later hb0) (hSB.later hb0) (by omega))
  have HO0 := Lib.hid (And.intro hsP (And.intro hcP hnP))
  clear hsP hcP hnP
  have cY := kY.cell
  have lY := kY.lt
  clear hsA hcA hnA hsB hcB hnB hSA hSB
  go_enter Try.func9, Try.ntmps9
  go_wp2_with fail
  refine HF.out.mono ?_
  rintro e w1 ⟨v1, v2, rfl, hown1, hown2, hb1⟩
  obtain ⟨A1, c1, rfl⟩ := own_slice hown1
  obtain ⟨B1, d1, rfl⟩ := own_slice hown2
  have hb2 := hb0.trans (hb1.mono hb0.size)
  have hS65 := fewL_len s 24
  have hT65 := fewL_len t 24
  generalize fewL s 24 = S at *
  generalize fewL t 24 = T at *
  have rS1 := own_rowH hown1
  have rT1 := own_rowH hown2
  have kX := Blk.new w1 37 #[.slice A1 S.length c1, .slice B1 T.length d1, .int .i64 lo, .int .i64 hi]
  have hb3 : Below w1.heap.size w1 (w1.alloc (.cells #[.slice A1 S.length c1, .slice B1 T.length d1, .int .i64 lo, .int .i64 hi] 37)) := (Below.refl _ _).alloc (Nat.le_refl _) _
  have rS := rS1.later hb3
  have rT := rT1.later hb3
  have hb := hb2.trans (hb3.mono hb2.size)
  clear HF cY lY hb0 kY hown1 hown2 hb1 hb2 hb3 rS1 rT1
  go_upto_region 2 with fail
  revert kX rS rT hb
  generalize w1.alloc (.cells #[.slice A1 S.length c1, .slice B1 T.length d1, .int .i64 lo, .int .i64 hi] 37) = w2
  generalize w1.heap.size = X
  intro kX rS rT hb
  have HO : Hid (SpansA w2 P q o ∧ q ≤ e0 ∧ (P = none → e0 = 0)) := ⟨HO0.out.1.later hb, HO0.out.2.1, HO0.out.2.2⟩
  clear HO0
  obtain ⟨k, hk⟩ : ∃ k, k = min q 65 := ⟨_, rfl⟩
  have hk2 : k ≤ 65 := by omega
  have HKL : Hid ((o.take 65).length = k) := by show _ = _; rw [List.length_take]; have := HO.out.1.1; omega
  have HK := Lib.hid hk
  clear hk
  go_upto_region 2 with fail
  go_cut [6] from 11 to 17 (fun u6 wx => ∃ (A' : Option Addr) (c' : Nat), u6 = .slice A' k c' ∧ SpansH wx A' k (o.take 65) ∧ Below w2.heap.size w2 wx)
  case first =>
    obtain ⟨hSA, hqe, hnil⟩ := HO.out
    have hk := HK.out
    have hb0 : Below w2.heap.size w2 (w2.alloc (.cells #[] 26)) := (Below.refl _ _).alloc (Nat.le_refl _) _
    have hmade : (w2.alloc (.cells #[] 26)).ownsRow w2.heap.size 26 2 (.slice (some ⟨w2.heap.size, 0, none⟩) 0 0) 0 (scells []) := World.ownsRow_made (base := w2.heap.size) (e := 26) (size := 2) w2 #[] 0 (by simp) (by unfold maxLen; omega) (by simp)
    have hll := Lib.hid hSA.1
    have hmin : min (q : Int) 65 = (k : Int) := by omega
    have hT := (hSA.later hb0).take (m := k) (by omega)
    have HC : Hid ((o.take 65).length = k) := HKL
    have e1 : Hid (o.take 65 = o.take k) := by
      show _ = _
      have h1 := hll.out
      rcases Nat.le_total q 65 with h | h
      · rw [List.take_of_length_le (by omega), List.take_of_length_le (by omega)]
      · rw [show k = 65 by omega]
    have hkc : k ≤ e0 := by omega
    have hkci : (k : Int) ≤ (e0 : Int) := by omega
    have hnil' := Lib.hid hnil
    clear hSA hqe hnil hk
    rcases P with _ | a
    · have hc0 := hnil'.out rfl
      have hk0 : k = 0 := by omega
      subst hc0 hk0
      go_wp2_with (at_builtin; refine app_spans _ rfl (.tmp 11) (.tmp 16) rfl w2.heap.size _ 0 [] rfl hmade none 0 0 (o.take 0) rfl hT (by omega) (by simp) ?_)
      all_goals
        intro v wv hown hgr
        have hown2 : wv.ownsRow w2.heap.size 26 2 v 0 (scells (o.take 65)) := by rw [e1.out]; simpa [scells] using hown
        have hbv : Below w2.heap.size w2 wv := hb0.grown (by simpa [Value.ownBlock] using hgr) (by simp) (fun q hq => by simp at hq; omega)
        obtain ⟨A', c', rfl⟩ := own_slice hown2
        have hrow := own_spans hown2 HC.out
        have HROW := Lib.hid (And.intro hrow hbv)
        clear hown hown2 hgr hrow hbv
        go_wp2_with fail
        go_meet
        case rel => exact ⟨A', c', rfl, HROW.out.1, HROW.out.2⟩
    · go_wp2_with (at_builtin; refine app_spans _ rfl (.tmp 11) (.tmp 16) rfl w2.heap.size _ 0 [] rfl hmade (some a) k e0 (o.take k) rfl hT (by omega) (by simp) ?_)
      all_goals
        intro v wv hown hgr
        have hown2 : wv.ownsRow w2.heap.size 26 2 v k (scells (o.take 65)) := by rw [e1.out]; simpa [scells] using hown
        have hbv : Below w2.heap.size w2 wv := hb0.grown (by simpa [Value.ownBlock] using hgr) (by simp) (fun q hq => by simp at hq; omega)
        obtain ⟨A', c', rfl⟩ := own_slice hown2
        have hrow := own_spans hown2 HC.out
        have HROW := Lib.hid (And.intro hrow hbv)
        clear hown hown2 hgr hrow hbv
        go_wp2_with fail
        go_meet
        case rel => exact ⟨A', c', rfl, HROW.out.1, HROW.out.2⟩
  case rest =>
    obtain ⟨A', c', rfl, rP, hbc0⟩ := hcut
    replace kX := kX.later hbc0
    replace rS := rS.later hbc0
    replace rT := rT.later hbc0
    have hbl := hb.trans (hbc0.mono hb.size)
    generalize o.take 65 = o2 at *
    have hbf := Below.refl wc.heap.size wc
    have HV := Lib.hid fun w' h => valid_shop A1 B1 S.length c1 T.length d1 S T lo hi w' (rS.later (w' := w') h).rowI (rT.later h).rowI (by omega) (by omega)
    clear hb hbc0 HO
    cases hpb : piecesB S T lo hi with
    | false =>
      have HP := Lib.hid (shows_no A1 B1 A' c1 d1 k c' S T lo hi wc rS rT (by omega) (by omega) hpb)
      rw [hpb] at HV
      clear hpb
      have ckX := kX.cell
      have lkX := kX.lt
      go_wp2_with fail
      refine (HP.out).mono ?_
      rintro e wc1 ⟨rfl, hbc⟩
      replace kX := kX.later hbc
      replace hbf := hbf.trans (hbc.mono hbf.size)
      replace hbl := hbl.trans (hbc.mono hbl.size)
      clear hbc
      clear ckX lkX
      have ckX := kX.cell
      have lkX := kX.lt
      go_wp2_with fail
      refine (HV.out _ hbf).mono ?_
      rintro e wc2 ⟨rfl, hbc⟩
      replace kX := kX.later hbc
      replace hbf := hbf.trans (hbc.mono hbf.size)
      replace hbl := hbl.trans (hbc.mono hbl.size)
      clear hbc
      clear ckX lkX
      go_wp2_with fail
      refine (lives_any _).mono ?_
      rintro e wc3 ⟨rfl, hbc⟩
      replace hbl := hbl.trans (hbc.mono hbl.size)
      clear hbc
      go_wp2_with fail
      go_ret
      exact ⟨rfl, hbl⟩
    | true =>
      have HP := Lib.hid (shows_any A1 B1 A' c1 d1 k c' S T lo hi o2 wc rS rT rP (by omega) hpb)
      rw [hpb] at HV
      obtain ⟨hs, hh, l1, l2, hsp⟩ := piecesB_iff.1 hpb
      have HQ := Lib.hid fun w' (h : Below wc.heap.size wc w') => rSpans_any A' k c' o2 w' (rP.later h) (by omega)
      have HW := Lib.hid fun (hok : spansOK o2) w' (h : Below wc.heap.size wc w') => rShows_any A1 B1 A' S.length c1 T.length d1 k c' S T lo hi o2 w' (rS.later h) (rT.later h) (rP.later h) hs hh l1 l2 (by have h1 := hok.2; have h2 := rP.1; omega) hsp (by have h1 := hok.1; rw [rP.1] at h1; exact h1)
      clear hpb hs hh hsp rS rT rP
      have ckX := kX.cell
      have lkX := kX.lt
      go_wp2_with fail
      refine HP.out.mono ?_
      rintro e w3 hres
      obtain ⟨v, er, rfl, hbc, hcase⟩ : ∃ v er : Int, e = .returned (.tuple #[.int .i64 v, .int .i64 er]) ∧ Below wc.heap.size wc w3 ∧ ((v = 0 ∧ er = 2 ∧ ¬ spansOK o2) ∨ (v = showsV S T lo hi o2 ∧ er = 0 ∧ spansOK o2)) := by
        rcases hres with ⟨h1, h2, h3⟩ | ⟨h1, h2, h3⟩
        · exact ⟨0, 2, h1, h3, .inl ⟨rfl, rfl, h2⟩⟩
        · exact ⟨_, 0, h1, h3, .inr ⟨rfl, rfl, h2⟩⟩
      replace kX := kX.later hbc
      replace hbf := hbf.trans (hbc.mono hbf.size)
      replace hbl := hbl.trans (hbc.mono hbl.size)
      clear hbc ckX lkX hres HP
      have ckX := kX.cell
      have lkX := kX.lt
      go_wp2_with fail
      refine (HV.out _ hbf).mono ?_
      rintro e wc4 ⟨rfl, hbc⟩
      replace kX := kX.later hbc
      replace hbf := hbf.trans (hbc.mono hbf.size)
      replace hbl := hbl.trans (hbc.mono hbl.size)
      clear hbc
      clear ckX lkX
      rcases hcase with ⟨rfl, rfl, hno⟩ | ⟨hv, rfl, hyes⟩
      · rw [spansB_false hno] at HQ
        clear hno HW
        go_wp2_with fail
        refine (HQ.out _ hbf).mono ?_
        rintro e wc5 ⟨rfl, hbc⟩
        replace hbl := hbl.trans (hbc.mono hbl.size)
        clear hbc
        go_wp2_with fail
        refine (lives_any _).mono ?_
        rintro e wc6 ⟨rfl, hbc⟩
        replace hbl := hbl.trans (hbc.mono hbl.size)
        clear hbc
        go_wp2_with fail
        go_ret
        exact ⟨rfl, hbl⟩
      · have HW2 := Lib.hid (HW.out hyes)
        rw [← hv] at HW2
        rw [spansB_true hyes] at HQ
        clear hyes HW hv
        have ckX := kX.cell
        have lkX := kX.lt
        go_wp2_with fail
        refine (HQ.out _ hbf).mono ?_
        rintro e wc7 ⟨rfl, hbc⟩
        replace kX := kX.later hbc
        replace hbf := hbf.trans (hbc.mono hbf.size)
        replace hbl := hbl.trans (hbc.mono hbl.size)
        clear hbc
        clear ckX lkX
        have ckX := kX.cell
        have lkX := kX.lt
        go_wp2_with fail
        refine (HW2.out _ hbf).mono ?_
        rintro e wc8 ⟨rfl, hbc⟩
        replace hbl := hbl.trans (hbc.mono hbl.size)
        clear hbc
        clear ckX lkX
        go_wp2_with fail
        refine (lives_any _).mono ?_
        rintro e wc9 ⟨rfl, hbc⟩
        replace hbl := hbl.trans (hbc.mono hbl.size)
        clear hbc
        go_wp2_with fail
        go_ret
        exact ⟨rfl, hbl⟩
end Go.Proofs.Ytpklcjbdmikbdaa.fitShows
namespace Go.Proofs.Ytpklcjbdmikbdaa.fitShows
open Go.ChangeShapes Go.WideShapes Go.ChangeAt Go.RowKit


set_option maxHeartbeats 2000000 in
set_option maxHeartbeats 4000000 in
set_option maxRecDepth 100000 in
theorem lifted (os : Os) (started : os.Started) (H : Type) (enc : TypeId × Value → H) :
    ReturnsInHanded {} Try.checked os 9 .any (Rows.fitShowsSpec.pre6 enc Try.prog Try.f9 Rows.fitShowsRow.domain false) (Rows.fitShowsSpec.post enc Try.prog Try.f9 false true false false) := by
  refine returnsInHanded_of_change (C := Try.checked) Try.own started (by kernel_rfl) Try.func9
    (ChangeSpec.witness6 (enc := enc) (C := Try.checked) false ⟨#[], #[.agg #[.slice none 0 0, .slice none 0 0, .int .i64 0, .int .i64 0], .slice none 0 0], []⟩ 8 (by kernel_rfl) (by kernel_rfl) (by kernel_rfl) (by kernel_rfl)) ?_
  intro W base args ds gs before hval0 hW hcnd _
  have hval : ∀ (j : Nat) t v, Try.f9.params[j]? = some t → args[j]? = some v → Value.okWide Try.prog W .any base t v := hval0
  have hW' := hW
  obtain ⟨p, q, hA0, hV, rfl, hfz, hnd⟩ := hW
  have hA : DataW.TrodAll enc Try.prog W 0 (fun _ => true) true Try.f9.params.toList args.toList ds p := hA0
  rw [Try.params9] at hA hval
  obtain ⟨v0, vs0, d0, ds0, p0, q0, hargs, rfl, rfl, h0, r0⟩ := trodAll_cons hA
  obtain ⟨v1, vs1, d1, ds1, p1, q1, rfl, rfl, rfl, h1, r1⟩ := trodAll_cons r0
  obtain ⟨rfl, rfl, rfl⟩ := trodAll_nil r1
  obtain rfl : args = #[v0, v1] := by cases args; simp_all
  obtain ⟨rfl, rfl⟩ := trodVars_none hV
  obtain ⟨A0, B0, n0, c0, m0, e0, s0, t0, lo0, hi0, rfl, x0, y0, u0, x0b, y0b, u0b⟩ := open_Q (hval 0 37 v0 rfl rfl) h0
  obtain ⟨A1, n1, c1, l1, rfl, x1, y1, u1⟩ := open_N (hval 1 58 v1 rfl rfl) h1
  refine (walk A0 B0 n0 c0 m0 e0 lo0 hi0 A1 n1 c1 s0 t0 l1 W x0 y0 u0 x0b y0b u0b x1 y1 u1).mono fun e W' ⟨he, hb⟩ => ?_
  exact ⟨_, he, law_post rfl (by kernel_rfl) (by kernel_rfl) hW' rfl rfl rfl hb⟩

set_option maxHeartbeats 4000000 in
set_option maxRecDepth 100000 in
theorem facts : joinedFacts Try.prog 9 Try.f9 Rows.fitShowsSpec Rows.fitShowsRow = true := by
  unfold joinedFacts
  repeat' (with_reducible refine and_t ?_ ?_)
  all_goals first
    | with_reducible exact Try.enters
    | (rw [Try.finals]; as_aux_lemma => kernel_rfl)
    | (rw [Try.made]; as_aux_lemma => kernel_rfl)
    | (as_aux_lemma => kernel_rfl)

theorem proved : Rows.FitShowsSaid :=
  OpenClaim.holds_of_wide 9 Try.f9 rfl rfl rfl rfl rfl rfl rfl ⟨rfl, rfl, rfl, rfl, rfl⟩ rfl rfl rfl rfl rfl (by as_aux_lemma => kernel_rfl) Try.func9 facts
    (of_decide_eq_true (by as_aux_lemma => kernel_rfl)) (by unfold Func.isWrapper; rw [if_neg (of_decide_eq_false (by kernel_rfl))]; exact ⟨rfl, rfl⟩)
    (fun os started H enc _ => lifted os started H enc)
#print axioms proved
end Go.Proofs.Ytpklcjbdmikbdaa.fitShows
