/-
Proved: FitMore: a hole more, or a wider clearance, never pairs fewer shafts, and at most one more for a hole.
  Conditions: none.
-/
import Derived.Test.YtpklcjbdmikbdaaGO
import Derived.Test.YtpklcjbdmikbdaaGQ
namespace Go.Proofs.Ytpklcjbdmikbdaa
open Go.RowKit

theorem step_app_ints {ops : Array Oper} {o : Oper} {a : Act} {w : World} {K : Act → World → Prop} {Q : Exit → Act → World → Prop} {E : Prop} (hgd : o.guard = none) (s x : Operand)
    (ho : o.op = .call { callee := .builtin .append, args := #[s, x], argTypes := #[23, 23] }) (base g n c : Nat) (xs : List Int) (hs : a.eval s = .slice (some ⟨g, 0, none⟩) n c) (hown : w.ownsRow base 3 1 (.slice (some ⟨g, 0, none⟩) n c) n (xs.map (Value.int .i64)))
    (ao : Option Addr) (m d : Nat) (l : List Int) (hx : a.eval x = .slice ao m d) (hr : RowI w ao m l) (hn : n + m ≤ 100000) (hbase : base ≤ w.heap.size)
    (h : ∀ g' cap w', w'.ownsRow base 3 1 (.slice (some ⟨g', 0, none⟩) (n + m) cap) (n + m) ((xs ++ l).map (Value.int .i64)) → w.grownBy w' (some g) → (g' = g ∨ g' = w.heap.size) → K (a.put o.dst (.slice (some ⟨g', 0, none⟩) (n + m) cap)) w') :
    if Region.wanted o (yielded ops a.tmps) = true then Oper.wp Try.prog o a w K Q else E := by
  obtain ⟨i0, hi, hz0, hz1, hz2⟩ := info_parts info3
  rcases Nat.eq_zero_or_pos m with z | z
  · subst z
    have hl : l = [] := List.eq_nil_of_length_eq_zero hr.1
    subst hl
    have hsrc : Src Try.prog i0.size 23 (.slice ao 0 d) 0 [] w := by
      cases ao with
      | none => exact Src.ofNil w Try.underlying23 d
      | some ad => exact Src.ofSlice w Try.underlying23 ad 0 d [] (by simp) (by simp) (by simp)
    have hle : n ≤ c := by
      rcases hown.2 with ⟨h1, _⟩ | ⟨g', cap, cur, h1, _, _, h2, _⟩
      · simp at h1
      · simp at h1; omega
    have hrun := run_append_nothing (P := Try.prog) w 23 23 o.type 3 i0 Try.underlying23 hi (some ⟨g, 0, none⟩) n c hle _ hsrc
    have hw : Region.wanted o (yielded ops a.tmps) = true := by simp [Region.wanted, hgd]
    rw [if_pos hw]
    unfold Oper.wp
    simp [execOp, ho, resolve, invoke, builtin, hs, hx, hrun, Result.andThen]
    exact h g c w (by simpa using hown) (World.grownBy.refl _ _) (.inl rfl)
  · obtain ⟨ad, e, _, _⟩ := hr.2 z
    subst e
    refine step_append_lies w hgd s x 23 ho base 3 i0 (.int .i64 0) 1 8 Try.underlying23 hi hz0 hz1 hz2 rfl (by decide) _ n _ hs hown ad m d (l.map (Value.int .i64)) hx (by rw [List.length_map, hr.1]; omega) (rowI_news hr z) (ints_one _) z (by unfold maxLen; omega) (by omega) hbase _ rfl ?_
    intro g' cap w' hown' hgr hat _
    refine h g' cap w' (by rw [List.map_append]; exact hown') hgr ?_
    rcases hat with e | e
    · exact .inl (by simpa [Value.ownBlock] using e.symm)
    · exact .inr e
/-- A slice that grows, beside the world wd. -/
structure HoleS (wd V : World) (g n c : Nat) (xs : List Int) : Prop where
  hb : Below wd.heap.size wd V
  own : V.ownsRow wd.heap.size 3 1 (.slice (some ⟨g, 0, none⟩) n c) n (xs.map (Value.int .i64))
/-- A slice of one integer, beside the world wd. -/
structure HoleB (wd V : World) (b : Nat) (x : Int) : Prop where
  hb : Below wd.heap.size wd V
  one : RowH V (some ⟨b, 0, none⟩) 1 [x]
  lt : b < V.heap.size
/-- Both. -/
structure HoleD (wd V : World) (g n c : Nat) (xs : List Int) (b : Nat) (x : Int) : Prop extends HoleS wd V g n c xs where
  one : RowH V (some ⟨b, 0, none⟩) 1 [x]
  lt : b < V.heap.size
  ne : g ≠ b
section
variable {wd V V' : World} {g n c g' n' c' b : Nat} {xs xs' : List Int} {x : Int}
theorem HoleS.start (h : Below wd.heap.size wd V) : HoleS wd (V.alloc (.cells #[] 3)) V.heap.size 0 0 [] :=
  ⟨h.trans (((Below.refl _ _).alloc (Nat.le_refl _) _).mono h.size), World.ownsRow_made (base := wd.heap.size) (e := 3) (size := 1) V #[] 0 h.size (by unfold maxLen; omega) (by simp)⟩
theorem one_made (V : World) (x : Int) : RowH (V.alloc (.cells #[.int .i64 x] 3)) (some ⟨V.heap.size, 0, none⟩) 1 [x] :=
  RowH.of_row (RowB.of (l := [x]) (by simpa [rowc] using Blk.new V 3 #[.int .i64 x])) rfl
theorem HoleB.start (h : Below wd.heap.size wd V) (x : Int) : HoleB wd (V.alloc (.cells #[.int .i64 x] 3)) V.heap.size x :=
  ⟨h.trans (((Below.refl _ _).alloc (Nat.le_refl _) _).mono h.size), one_made V x, by simp⟩
theorem HoleB.start' (h : HoleB wd V b x) : HoleD wd (V.alloc (.cells #[] 3)) V.heap.size 0 0 [] b x :=
  ⟨HoleS.start h.hb, h.one.later ((Below.refl _ _).alloc (Nat.le_refl _) _), by have := h.lt; simp; omega, by have := h.lt; omega⟩
theorem HoleS.glt (h : HoleS wd V g n c xs) : g < V.heap.size := (World.ownsRow.lt h.own g rfl).2
theorem HoleS.build (h : HoleS wd V g n c xs) (x : Int) : HoleD wd (V.alloc (.cells #[.int .i64 x] 3)) g n c xs V.heap.size x :=
  ⟨⟨h.hb.trans (((Below.refl _ _).alloc (Nat.le_refl _) _).mono h.hb.size), own_later h.own ((Below.refl _ _).alloc (Nat.le_refl _) _)⟩, one_made V x, by simp, by have := h.glt; omega⟩
theorem HoleS.app (h : HoleS wd V g n c xs) (ho : V'.ownsRow wd.heap.size 3 1 (.slice (some ⟨g', 0, none⟩) n' c') n' (xs'.map (Value.int .i64))) (hg : V.grownBy V' (some g)) (_ : g' = g ∨ g' = V.heap.size) : HoleS wd V' g' n' c' xs' :=
  ⟨h.hb.grown hg h.hb.size (fun q hq => by cases hq; exact (World.ownsRow.lt h.own g rfl).1), ho⟩
theorem HoleD.app (h : HoleD wd V g n c xs b x) (ho : V'.ownsRow wd.heap.size 3 1 (.slice (some ⟨g', 0, none⟩) n' c') n' (xs'.map (Value.int .i64))) (hg : V.grownBy V' (some g)) (hat : g' = g ∨ g' = V.heap.size) : HoleD wd V' g' n' c' xs' b x :=
  ⟨h.toHoleS.app ho hg hat, h.one.grown hg (fun q e => by cases e; exact fun e => h.ne e.symm), by have := h.lt; have := hg.size; omega, by
    have h1 := h.ne
    have h2 := h.lt
    rcases hat with e | e <;> omega⟩
end
/-- A hole more: as many, or one more. -/
theorem Mx.more {F F' : Nat → Nat → Prop} {A : Nat → Prop} {m n n' : Nat} (h : Mx F A (· < m) n) (h' : Mx F' A (· < m + 1) n') (hF : ∀ x k, k < m → (F x k ↔ F' x k)) : n ≤ n' ∧ n' ≤ n + 1 := by
  obtain ⟨⟨M, m1, m2⟩, m3⟩ := h
  obtain ⟨⟨M', k1, k2⟩, k3⟩ := h'
  constructor
  · have := k3 M (m1.mono fun e he => by
      obtain ⟨a, b, c⟩ := m1.ok e he
      exact ⟨a, by show e.2 < m + 1; have : e.2 < m := b; omega, (hF _ _ b).1 c⟩)
    omega
  · have h1 := k1.drop_snd m
    have h2 := m3 (M'.filter fun e => !(e.2 == m)) ((k1.filter _).mono fun e he => by
      obtain ⟨a, b, c⟩ := k1.ok e (List.mem_filter.1 he).1
      have hne : e.2 ≠ m := by simpa using (List.mem_filter.1 he).2
      have hb : e.2 < m := by have : e.2 < m + 1 := b; omega
      exact ⟨a, hb, (hF _ _ hb).2 c⟩)
    omega
/-- A wider clearance: never fewer. -/
theorem Mx.wider {F F' : Nat → Nat → Prop} {A B : Nat → Prop} {n n' : Nat} (h : Mx F A B n) (h' : Mx F' A B n') (hF : ∀ x k, F x k → F' x k) : n ≤ n' := by
  obtain ⟨⟨M, m1, m2⟩, m3⟩ := h
  have := h'.2 M (m1.mono fun e he => by
    obtain ⟨a, b, c⟩ := m1.ok e he
    exact ⟨a, b, hF _ _ c⟩)
  omega
theorem Mx.le_len {s t : List Int} {lo hi : Int} {A B : Nat → Prop} {n : Nat} (h : Mx (fitP s t lo hi) A B n) : n ≤ s.length := by
  obtain ⟨⟨M, m1, m2⟩, m3⟩ := h
  have := len_of_sub (b := List.range s.length) m1.one (fun i hi => by
    obtain ⟨e, he, rfl⟩ := List.mem_map.1 hi
    exact List.mem_range.2 (m1.ok e he).2.2.1)
  rw [List.length_map, List.length_range] at this
  omega
theorem fit_more {s t : List Int} {lo hi v : Int} (x k : Nat) (hk : k < t.length) : fitP s t lo hi x k ↔ fitP s (t ++ [v]) lo hi x k := by
  unfold fitP
  rw [List.getD_eq_getElem?_getD (l := t ++ [v]), List.getElem?_append_left hk, ← List.getD_eq_getElem?_getD, List.length_append]
  simp
  omega
theorem fit_wider {s t : List Int} {lo hi lo' hi' : Int} (h1 : lo' ≤ lo) (h2 : hi ≤ hi') (x k : Nat) (h : fitP s t lo hi x k) : fitP s t lo' hi' x k := by
  obtain ⟨a, b, c, d⟩ := h
  exact ⟨a, b, by omega, by omega⟩
theorem fewL_short (l : List Int) (q : Nat) (h : (fewL l q).length ≤ 64) : (fewL l q).length ≤ q := by
  revert h
  unfold fewL fewN
  split
  · rw [List.length_take, List.length_take]; omega
  · rw [List.length_take, List.length_take]; omega
namespace fitMore
set_option maxRecDepth 100000 in
set_option maxHeartbeats 16000000 in
theorem walk (A B : Option Addr) (n c m d : Nat) (lo hi : Int) (ho : Int) (ux : Int) (s t : List Int) (w : World) (hsA : RowI w A n s) (hcA : n ≤ c) (hnA : A = none → c = 0) (hsB : RowI w B m t) (hcB : m ≤ d) (hnB : B = none → d = 0) (hux : (Lit.int .u8 ux).wf = true) :
    Calls Try.prog 8 #[.agg #[.slice A n c, .slice B m d, .int .i64 lo, .int .i64 hi], .int .i64 ho, .int .u8 ux] w fun e w' => e = .returned (.bool true) ∧ Below w.heap.size w w' := by
  have hb0 : Below w.heap.size w (w.alloc (.cells #[.slice A n c, .slice B m d, .int .i64 lo, .int .i64 hi] 37)) := (Below.refl _ _).alloc (Nat.le_refl _) _
  have kY := Blk.new w 37 #[.slice A n c, .slice B m d, .int .i64 lo, .int .i64 hi]
  have hSA : SrcI w A n c s := ⟨hsA, hcA, hnA⟩
  have hSB : SrcI w B m d t := ⟨hsB, hcB, hnB⟩
  have HF := Lib.hid (few_any A B n c m d 30 s t lo hi _ (hSA.later hb0) (hSB.later hb0) (by omega))
  have HT30 := Lib.hid (fewL_short t 30)
  have HUX := Lib.hid hux
  clear hux
  have cY := kY.cell
  have lY := kY.lt
  clear hsA hcA hnA hsB hcB hnB hSA hSB
  go_enter Try.func8, Try.ntmps8
  go_wp2_with fail
  refine HF.out.mono ?_
  rintro e w1 ⟨v1, v2, rfl, hown1, hown2, hb1⟩
  obtain ⟨A1, c1, rfl⟩ := own_slice hown1
  obtain ⟨B1, d1, rfl⟩ := own_slice hown2
  have hb2 := hb0.trans (hb1.mono hb0.size)
  have hS65 := fewL_len s 30
  have hT65 := fewL_len t 30
  generalize fewL s 30 = S at *
  generalize fewL t 30 = T at *
  have rS1 := own_rowH hown1
  have rT1 := own_rowH hown2
  have kX := Blk.new w1 37 #[.slice A1 S.length c1, .slice B1 T.length d1, .int .i64 lo, .int .i64 hi]
  have hb3 : Below w1.heap.size w1 (w1.alloc (.cells #[.slice A1 S.length c1, .slice B1 T.length d1, .int .i64 lo, .int .i64 hi] 37)) := (Below.refl _ _).alloc (Nat.le_refl _) _
  have rS := rS1.later hb3
  have rT := rT1.later hb3
  have hb := hb2.trans (hb3.mono hb2.size)
  clear HF cY lY hb0 kY hown1 hown2 hb1 hb2 hb3 rS1 rT1
  go_upto_region 2 with fail
  revert kX rS rT hb
  generalize w1.alloc (.cells #[.slice A1 S.length c1, .slice B1 T.length d1, .int .i64 lo, .int .i64 hi] 37) = w2
  generalize w1.heap.size = X
  intro kX rS rT hb
  have cX := kX.cell
  have lX := kX.lt
  have HV := Lib.hid fun w' h => valid_shop A1 B1 S.length c1 T.length d1 S T lo hi w' (rS.later (w' := w') h).rowI (rT.later h).rowI (by omega) (by omega)
  cases hpb : piecesB S T lo hi with
  | false =>
    rw [hpb] at HV
    clear hpb
    go_wp2_with fail
    refine (HV.out _ (Below.refl _ _)).mono ?_
    rintro e w4 ⟨rfl, hb6⟩
    have hb7 := hb.trans (hb6.mono hb.size)
    clear HV hb6
    go_wp2_with fail
    refine (lives_any _).mono ?_
    rintro e w5 ⟨rfl, hb8⟩
    go_wp2_with fail
    go_ret
    exact ⟨rfl, hb7.trans (hb8.mono hb7.size)⟩
  | true =>
    rw [hpb] at HV
    obtain ⟨hs, hh, l1, l2, hsp⟩ := piecesB_iff.1 hpb
    have HS := Lib.hid hs
    have HH := Lib.hid hh
    have hT30 := HT30.out l2
    have HSP := Lib.hid hsp
    have HPB := Lib.hid hpb
    clear hpb hs hh HT30 hsp
    go_wp2_with fail
    refine (HV.out _ (Below.refl _ _)).mono ?_
    rintro e w3 ⟨rfl, hb6⟩
    have kX3 := kX.later hb6
    have rS3 := rS.later hb6
    have rT3 := rT.later hb6
    have hb7 := hb.trans (hb6.mono hb.size)
    have cX3 := kX3.cell
    have lX3 := kX3.lt
    have HP := Lib.hid (pair_yes A1 B1 c1 d1 S T lo hi w3 rS3 rT3 HPB.out)
    clear HV hb6 kX rS rT hb cX lX
    go_wp2_with fail
    refine HP.out.mono ?_
    rintro e w4 ⟨R, cr, nn, left, tt, BB, rfl, _, _, _, hmx, hb4⟩
    have HMX := Lib.hid hmx
    have hnn := hmx.le_len
    have kX4 := kX3.later hb4
    have rS4 := rS3.later hb4
    have rT4 := rT3.later hb4
    have hb5 := hb7.trans (hb4.mono hb7.size)
    clear HP cX3 lX3 kX3 rS3 rT3 hb4 hb7 hmx
    go_upto_region 5 with fail
    go_cut [11, 12, 13] from 35 to 51 (fun _ u12 u13 wx => ∃ m1 : Nat, u12 = .int .i64 (m1 : Int) ∧ u13 = .int .i64 0 ∧ Mx (fitP S (T ++ [Int.tmod ho 1000001]) lo hi) (fun _ => True) (· < T.length + 1) m1 ∧ Below w4.heap.size w4 wx)
    case first =>
      have cX4 := kX4.cell
      have lX4 := kX4.lt
      obtain ⟨hv, hhv⟩ : ∃ hv, hv = Int.tmod ho 1000001 := ⟨_, rfl⟩
      have HHV := Lib.hid hhv
      have hv1 : -1000000 ≤ hv ∧ hv ≤ 1000000 := by
        have a1 := Int.tmod_lt_of_pos ho (b := 1000001) (by decide)
        have a2 := Int.lt_tmod_of_pos ho (b := 1000001) (by decide)
        omega
      have HPAIR : Hid (∀ V g c, Below w4.heap.size w4 V → RowH V (some ⟨g, 0, none⟩) (T.length + 1) (T ++ [hv]) → Calls Try.prog 22 #[.slice A1 S.length c1, .slice (some ⟨g, 0, none⟩) (T.length + 1) c, .agg #[.int .i64 lo, .int .i64 hi]] V (PairR S (T ++ [hv]) lo hi V)) := by
        intro V g c hbV hr
        have hlen : (T ++ [hv]).length = T.length + 1 := by simp
        rw [← hlen] at hr ⊢
        refine pair_yes _ _ _ _ _ _ _ _ _ (rS4.later hbV) hr (piecesB_iff.2 ⟨HS.out, ?_, l1, by rw [hlen]; omega, HSP.out⟩)
        intro v hvm
        rcases List.mem_append.1 hvm with h1 | h1
        · exact HH.out v h1
        · obtain rfl : v = hv := by simpa using h1
          exact hv1
      clear hv1
      refine wp_region_held_drew (S := fun V => Below w4.heap.size w4 V) (by kernel_rfl) (Below.refl _ _).drew (fun hHeld => ?_)
      refine wpAnyH_take (i := 0) (v := ?_) rfl (by kernel_rfl) (by kernel_rfl) (by kernel_rfl) (fun _ _ _ h => h) (Or.inl ⟨by rfl, ?hy⟩) (by assumption) ?_
      case hy => (intro w hSw; have hcw : ∀ p o, p < w4.heap.size → w.cell? ⟨p, o, none⟩ = w4.cell? ⟨p, o, none⟩ := (fun p o h => hSw.cell (p := ⟨p, o, none⟩) h); clear hSw; go_simp; try with_reducible rfl)
      refine wpAnyH_take (i := 1) (v := ?_) rfl (by kernel_rfl) (by kernel_rfl) (by kernel_rfl) (fun _ _ _ h => h) (Or.inl ⟨by rfl, ?hy⟩) (by assumption) ?_
      case hy => (intro w hSw; have hcw : ∀ p o, p < w4.heap.size → w.cell? ⟨p, o, none⟩ = w4.cell? ⟨p, o, none⟩ := (fun p o h => hSw.cell (p := ⟨p, o, none⟩) h); clear hSw; go_simp; try with_reducible rfl)
      refine wpAnyH_take (i := 3) (v := ?_) rfl (by kernel_rfl) (by kernel_rfl) (by kernel_rfl) (fun _ _ _ h => h) (Or.inl ⟨by rfl, ?hy⟩) (by assumption) ?_
      case hy => (intro w hSw; have hcw : ∀ p o, p < w4.heap.size → w.cell? ⟨p, o, none⟩ = w4.cell? ⟨p, o, none⟩ := (fun p o h => hSw.cell (p := ⟨p, o, none⟩) h); clear hSw; go_simp; try with_reducible rfl)
      refine wpAnyH_take (i := 4) (v := ?_) rfl (by kernel_rfl) (by kernel_rfl) (by kernel_rfl) (fun _ _ _ h => h) (Or.inl ⟨by rfl, ?hy⟩) (by assumption) ?_
      case hy => (intro w hSw; have hcw : ∀ p o, p < w4.heap.size → w.cell? ⟨p, o, none⟩ = w4.cell? ⟨p, o, none⟩ := (fun p o h => hSw.cell (p := ⟨p, o, none⟩) h); clear hSw; go_simp; try with_reducible rfl)
      refine wpAnyH_take (i := 6) (v := ?_) rfl (by kernel_rfl) (by kernel_rfl) (by kernel_rfl) (fun _ _ _ h => h) (Or.inl ⟨by rfl, ?hy⟩) (by assumption) ?_
      case hy => (intro w hSw; have hcw : ∀ p o, p < w4.heap.size → w.cell? ⟨p, o, none⟩ = w4.cell? ⟨p, o, none⟩ := (fun p o h => hSw.cell (p := ⟨p, o, none⟩) h); clear hSw; go_simp; try with_reducible rfl)
      refine wpAnyH_take (i := 7) (v := ?_) rfl (by kernel_rfl) (by kernel_rfl) (by kernel_rfl) (fun _ _ _ h => h) (Or.inl ⟨by rfl, ?hy⟩) (by assumption) ?_
      case hy => (intro w hSw; have hcw : ∀ p o, p < w4.heap.size → w.cell? ⟨p, o, none⟩ = w4.cell? ⟨p, o, none⟩ := (fun p o h => hSw.cell (p := ⟨p, o, none⟩) h); clear hSw; go_simp; try with_reducible rfl)
      refine wpAnyH_take (i := 10) (v := ?_) rfl (by kernel_rfl) (by kernel_rfl) (by kernel_rfl) (fun _ _ _ h => h) (Or.inl ⟨by rfl, ?hy⟩) (by assumption) ?_
      case hy => (intro w hSw; have hcw : ∀ p o, p < w4.heap.size → w.cell? ⟨p, o, none⟩ = w4.cell? ⟨p, o, none⟩ := (fun p o h => hSw.cell (p := ⟨p, o, none⟩) h); clear hSw; go_simp; try with_reducible rfl)
      refine wpAnyH_take (i := 11) (v := ?_) rfl (by kernel_rfl) (by kernel_rfl) (by kernel_rfl) (fun _ _ _ h => h) (Or.inl ⟨by rfl, ?hy⟩) (by assumption) ?_
      case hy => (intro w hSw; have hcw : ∀ p o, p < w4.heap.size → w.cell? ⟨p, o, none⟩ = w4.cell? ⟨p, o, none⟩ := (fun p o h => hSw.cell (p := ⟨p, o, none⟩) h); clear hSw; go_simp; try with_reducible rfl)
      simp only [Act.put, List.setIfInBounds_toArray]
      try rw [← HHV.out]
      clear cX4 lX4
      have hb := hHeld
      clear hHeld
      revert hb
      generalize w4.drew = V0
      intro hb
      refine wpAnyH_ready (rs := [2, 8]) (by kernel_rfl) (by simp) (AllReadyH.cons rfl (fun K hK => ?q10) (AllReadyH.cons rfl (fun K hK => ?q11) AllReadyH.nil))
      case q10 =>
        go_simp
        have R2 := HoleS.start hb
        refine hK.out _ _ R2.hb (fun _ => ?_)
        clear hK K
        obtain ⟨g0, hge⟩ : ∃ b, b = V0.heap.size := ⟨_, rfl⟩
        rw [← hge] at R2 ⊢
        clear hge
        clear hb
        revert R2
        generalize V0.alloc (.cells #[] 3) = V2
        intro R2
        have R := R2
        clear R2
        refine wpAnyH_ready (rs := [5, 8]) (by kernel_rfl) (by simp) (AllReadyH.cons rfl (fun K hK => ?q30) (AllReadyH.cons rfl (fun K hK => ?q31) AllReadyH.nil))
        case q30 =>
          refine step_app_ints rfl (.tmp 38) (.tmp 40) rfl w4.heap.size g0 0 0 [] rfl R.own B1 T.length d1 T rfl (rT4.later R.hb).rowI (by omega) R.hb.size ?_
          intro g4 cap4 V4 hown4 hgr4 hat4
          rw [Nat.zero_add, List.nil_append] at hown4
          rw [Nat.zero_add]
          have R2 := R.app hown4 hgr4 hat4
          refine hK.out _ _ R2.hb (fun _ => ?_)
          clear hK K R hown4 hgr4 hat4
          have R := R2
          clear R2
          refine wpAnyH_ready (rs := [8]) (by kernel_rfl) (by simp) (AllReadyH.cons rfl (fun K hK => ?_) AllReadyH.nil)
          go_simp
          try rw [← HHV.out]
          have D2 := R.build hv
          refine hK.out _ _ D2.hb (fun _ => ?_)
          clear hK K
          obtain ⟨b0, hge⟩ : ∃ b, b = V4.heap.size := ⟨_, rfl⟩
          rw [← hge] at D2 ⊢
          clear hge
          clear R
          revert D2
          generalize V4.alloc (.cells #[.int .i64 hv] 3) = V5
          intro D2
          have D := D2
          clear D2
          refine wpAnyH_ready (rs := [9]) (by kernel_rfl) (by simp) (AllReadyH.cons rfl (fun K hK => ?_) AllReadyH.nil)
          refine step_app_ints rfl (.tmp 41) (.tmp 44) rfl w4.heap.size g4 T.length cap4 T rfl D.own (some ⟨b0, 0, none⟩) 1 1 [hv] rfl D.one.rowI (by omega) D.hb.size ?_
          intro g6 cap6 V6 hown6 hgr6 hat6
          have R := D.toHoleS.app hown6 hgr6 hat6
          refine hK.out _ _ R.hb (fun _ => ?_)
          clear hK K D hown6 hgr6 hat6
          refine wpAnyH_ready (rs := [12]) (by kernel_rfl) (by simp) (AllReadyH.cons rfl (fun K hK => ?_) AllReadyH.nil)
          go_simp
          have HP2 := HPAIR.out V6 g6 cap6 R.hb (own_rowH R.own)
          refine HP2.mono ?_
          rintro e w5 ⟨R5, cr5, m1, left5, tt5, BB5, rfl, _, _, _, hmx5, hb5⟩
          have hbd := R.hb.trans (hb5.mono R.hb.size)
          refine hK.out _ _ hbd (fun _ => ?_)
          clear hK K HP2 R hb5
          refine wpAnyH_take (i := 13) (v := ?_) rfl (by kernel_rfl) (by kernel_rfl) (by kernel_rfl) (fun _ _ _ h => h) (Or.inl ⟨by rfl, ?hy⟩) (by assumption) ?_
          case hy => (intro w hSw; have hcw : ∀ p o, p < w4.heap.size → w.cell? ⟨p, o, none⟩ = w4.cell? ⟨p, o, none⟩ := (fun p o h => hSw.cell (p := ⟨p, o, none⟩) h); clear hSw; go_simp; try with_reducible rfl)
          refine wpAnyH_take (i := 14) (v := ?_) rfl (by kernel_rfl) (by kernel_rfl) (by kernel_rfl) (fun _ _ _ h => h) (Or.inl ⟨by rfl, ?hy⟩) (by assumption) ?_
          case hy => (intro w hSw; have hcw : ∀ p o, p < w4.heap.size → w.cell? ⟨p, o, none⟩ = w4.cell? ⟨p, o, none⟩ := (fun p o h => hSw.cell (p := ⟨p, o, none⟩) h); clear hSw; go_simp; try with_reducible rfl)
          refine wpAnyH_take (i := 15) (v := ?_) rfl (by kernel_rfl) (by kernel_rfl) (by kernel_rfl) (fun _ _ _ h => h) (Or.inl ⟨by rfl, ?hy⟩) (by assumption) ?_
          case hy => (intro w hSw; have hcw : ∀ p o, p < w4.heap.size → w.cell? ⟨p, o, none⟩ = w4.cell? ⟨p, o, none⟩ := (fun p o h => hSw.cell (p := ⟨p, o, none⟩) h); clear hSw; go_simp; try with_reducible rfl)
          refine wpAnyH_take (i := 16) (v := ?_) rfl (by kernel_rfl) (by kernel_rfl) (by kernel_rfl) (fun _ _ _ h => h) (Or.inl ⟨by rfl, ?hy⟩) (by assumption) ?_
          case hy => (intro w hSw; have hcw : ∀ p o, p < w4.heap.size → w.cell? ⟨p, o, none⟩ = w4.cell? ⟨p, o, none⟩ := (fun p o h => hSw.cell (p := ⟨p, o, none⟩) h); clear hSw; go_simp; try with_reducible rfl)
          refine wpAnyH_take (i := 17) (v := ?_) rfl (by kernel_rfl) (by kernel_rfl) (by kernel_rfl) (fun _ _ _ h => h) (Or.inl ⟨by rfl, ?hy⟩) (by assumption) ?_
          case hy => (intro w hSw; have hcw : ∀ p o, p < w4.heap.size → w.cell? ⟨p, o, none⟩ = w4.cell? ⟨p, o, none⟩ := (fun p o h => hSw.cell (p := ⟨p, o, none⟩) h); clear hSw; go_simp; try with_reducible rfl)
          refine wpAnyH_take (i := 18) (v := ?_) rfl (by kernel_rfl) (by kernel_rfl) (by kernel_rfl) (fun _ _ _ h => h) (Or.inl ⟨by rfl, ?hy⟩) (by assumption) ?_
          case hy => (intro w hSw; have hcw : ∀ p o, p < w4.heap.size → w.cell? ⟨p, o, none⟩ = w4.cell? ⟨p, o, none⟩ := (fun p o h => hSw.cell (p := ⟨p, o, none⟩) h); clear hSw; go_simp; try with_reducible rfl)
          refine wpAnyH_take (i := 19) (v := ?_) rfl (by kernel_rfl) (by kernel_rfl) (by kernel_rfl) (fun _ _ _ h => h) (Or.inl ⟨by rfl, ?hy⟩) (by assumption) ?_
          case hy => (intro w hSw; have hcw : ∀ p o, p < w4.heap.size → w.cell? ⟨p, o, none⟩ = w4.cell? ⟨p, o, none⟩ := (fun p o h => hSw.cell (p := ⟨p, o, none⟩) h); clear hSw; go_simp; try with_reducible rfl)
          refine wpAnyH_done (by kernel_rfl) ?_ _
          go_wp2_with fail
          go_meet
          case rel => exact ⟨m1, rfl, rfl, by rw [HHV.out, List.length_append] at hmx5; exact hmx5, hbd⟩
        case q31 =>
          go_simp
          try rw [← HHV.out]
          have D2 := R.build hv
          refine hK.out _ _ D2.hb (fun _ => ?_)
          clear hK K
          obtain ⟨b0, hge⟩ : ∃ b, b = V2.heap.size := ⟨_, rfl⟩
          rw [← hge] at D2 ⊢
          clear hge
          clear R
          revert D2
          generalize V2.alloc (.cells #[.int .i64 hv] 3) = V7
          intro D2
          have D := D2
          clear D2
          refine wpAnyH_ready (rs := [5]) (by kernel_rfl) (by simp) (AllReadyH.cons rfl (fun K hK => ?_) AllReadyH.nil)
          refine step_app_ints rfl (.tmp 38) (.tmp 40) rfl w4.heap.size g0 0 0 [] rfl D.toHoleS.own B1 T.length d1 T rfl (rT4.later D.toHoleS.hb).rowI (by omega) D.toHoleS.hb.size ?_
          intro g8 cap8 V8 hown8 hgr8 hat8
          rw [Nat.zero_add, List.nil_append] at hown8
          rw [Nat.zero_add]
          have R2 := D.app hown8 hgr8 hat8
          refine hK.out _ _ R2.hb (fun _ => ?_)
          clear hK K D hown8 hgr8 hat8
          have D := R2
          clear R2
          refine wpAnyH_ready (rs := [9]) (by kernel_rfl) (by simp) (AllReadyH.cons rfl (fun K hK => ?_) AllReadyH.nil)
          refine step_app_ints rfl (.tmp 41) (.tmp 44) rfl w4.heap.size g8 T.length cap8 T rfl D.own (some ⟨b0, 0, none⟩) 1 1 [hv] rfl D.one.rowI (by omega) D.hb.size ?_
          intro g9 cap9 V9 hown9 hgr9 hat9
          have R := D.toHoleS.app hown9 hgr9 hat9
          refine hK.out _ _ R.hb (fun _ => ?_)
          clear hK K D hown9 hgr9 hat9
          refine wpAnyH_ready (rs := [12]) (by kernel_rfl) (by simp) (AllReadyH.cons rfl (fun K hK => ?_) AllReadyH.nil)
          go_simp
          have HP2 := HPAIR.out V9 g9 cap9 R.hb (own_rowH R.own)
          refine HP2.mono ?_
          rintro e w5 ⟨R5, cr5, m1, left5, tt5, BB5, rfl, _, _, _, hmx5, hb5⟩
          have hbd := R.hb.trans (hb5.mono R.hb.size)
          refine hK.out _ _ hbd (fun _ => ?_)
          clear hK K HP2 R hb5
          refine wpAnyH_take (i := 13) (v := ?_) rfl (by kernel_rfl) (by kernel_rfl) (by kernel_rfl) (fun _ _ _ h => h) (Or.inl ⟨by rfl, ?hy⟩) (by assumption) ?_
          case hy => (intro w hSw; have hcw : ∀ p o, p < w4.heap.size → w.cell? ⟨p, o, none⟩ = w4.cell? ⟨p, o, none⟩ := (fun p o h => hSw.cell (p := ⟨p, o, none⟩) h); clear hSw; go_simp; try with_reducible rfl)
          refine wpAnyH_take (i := 14) (v := ?_) rfl (by kernel_rfl) (by kernel_rfl) (by kernel_rfl) (fun _ _ _ h => h) (Or.inl ⟨by rfl, ?hy⟩) (by assumption) ?_
          case hy => (intro w hSw; have hcw : ∀ p o, p < w4.heap.size → w.cell? ⟨p, o, none⟩ = w4.cell? ⟨p, o, none⟩ := (fun p o h => hSw.cell (p := ⟨p, o, none⟩) h); clear hSw; go_simp; try with_reducible rfl)
          refine wpAnyH_take (i := 15) (v := ?_) rfl (by kernel_rfl) (by kernel_rfl) (by kernel_rfl) (fun _ _ _ h => h) (Or.inl ⟨by rfl, ?hy⟩) (by assumption) ?_
          case hy => (intro w hSw; have hcw : ∀ p o, p < w4.heap.size → w.cell? ⟨p, o, none⟩ = w4.cell? ⟨p, o, none⟩ := (fun p o h => hSw.cell (p := ⟨p, o, none⟩) h); clear hSw; go_simp; try with_reducible rfl)
          refine wpAnyH_take (i := 16) (v := ?_) rfl (by kernel_rfl) (by kernel_rfl) (by kernel_rfl) (fun _ _ _ h => h) (Or.inl ⟨by rfl, ?hy⟩) (by assumption) ?_
          case hy => (intro w hSw; have hcw : ∀ p o, p < w4.heap.size → w.cell? ⟨p, o, none⟩ = w4.cell? ⟨p, o, none⟩ := (fun p o h => hSw.cell (p := ⟨p, o, none⟩) h); clear hSw; go_simp; try with_reducible rfl)
          refine wpAnyH_take (i := 17) (v := ?_) rfl (by kernel_rfl) (by kernel_rfl) (by kernel_rfl) (fun _ _ _ h => h) (Or.inl ⟨by rfl, ?hy⟩) (by assumption) ?_
          case hy => (intro w hSw; have hcw : ∀ p o, p < w4.heap.size → w.cell? ⟨p, o, none⟩ = w4.cell? ⟨p, o, none⟩ := (fun p o h => hSw.cell (p := ⟨p, o, none⟩) h); clear hSw; go_simp; try with_reducible rfl)
          refine wpAnyH_take (i := 18) (v := ?_) rfl (by kernel_rfl) (by kernel_rfl) (by kernel_rfl) (fun _ _ _ h => h) (Or.inl ⟨by rfl, ?hy⟩) (by assumption) ?_
          case hy => (intro w hSw; have hcw : ∀ p o, p < w4.heap.size → w.cell? ⟨p, o, none⟩ = w4.cell? ⟨p, o, none⟩ := (fun p o h => hSw.cell (p := ⟨p, o, none⟩) h); clear hSw; go_simp; try with_reducible rfl)
          refine wpAnyH_take (i := 19) (v := ?_) rfl (by kernel_rfl) (by kernel_rfl) (by kernel_rfl) (fun _ _ _ h => h) (Or.inl ⟨by rfl, ?hy⟩) (by assumption) ?_
          case hy => (intro w hSw; have hcw : ∀ p o, p < w4.heap.size → w.cell? ⟨p, o, none⟩ = w4.cell? ⟨p, o, none⟩ := (fun p o h => hSw.cell (p := ⟨p, o, none⟩) h); clear hSw; go_simp; try with_reducible rfl)
          refine wpAnyH_done (by kernel_rfl) ?_ _
          go_wp2_with fail
          go_meet
          case rel => exact ⟨m1, rfl, rfl, by rw [HHV.out, List.length_append] at hmx5; exact hmx5, hbd⟩
      case q11 =>
        go_simp
        try rw [← HHV.out]
        have D2 := HoleB.start hb hv
        refine hK.out _ _ D2.hb (fun _ => ?_)
        clear hK K
        obtain ⟨b0, hge⟩ : ∃ b, b = V0.heap.size := ⟨_, rfl⟩
        rw [← hge] at D2 ⊢
        clear hge
        clear hb
        revert D2
        generalize V0.alloc (.cells #[.int .i64 hv] 3) = V10
        intro D2
        have D := D2
        clear D2
        refine wpAnyH_ready (rs := [2]) (by kernel_rfl) (by simp) (AllReadyH.cons rfl (fun K hK => ?_) AllReadyH.nil)
        go_simp
        have R2 := D.start'
        refine hK.out _ _ R2.hb (fun _ => ?_)
        clear hK K
        obtain ⟨g0, hge⟩ : ∃ b, b = V10.heap.size := ⟨_, rfl⟩
        rw [← hge] at R2 ⊢
        clear hge
        clear D
        revert R2
        generalize V10.alloc (.cells #[] 3) = V11
        intro R2
        have D := R2
        clear R2
        refine wpAnyH_ready (rs := [5]) (by kernel_rfl) (by simp) (AllReadyH.cons rfl (fun K hK => ?_) AllReadyH.nil)
        refine step_app_ints rfl (.tmp 38) (.tmp 40) rfl w4.heap.size g0 0 0 [] rfl D.toHoleS.own B1 T.length d1 T rfl (rT4.later D.toHoleS.hb).rowI (by omega) D.toHoleS.hb.size ?_
        intro g12 cap12 V12 hown12 hgr12 hat12
        rw [Nat.zero_add, List.nil_append] at hown12
        rw [Nat.zero_add]
        have R2 := D.app hown12 hgr12 hat12
        refine hK.out _ _ R2.hb (fun _ => ?_)
        clear hK K D hown12 hgr12 hat12
        have D := R2
        clear R2
        refine wpAnyH_ready (rs := [9]) (by kernel_rfl) (by simp) (AllReadyH.cons rfl (fun K hK => ?_) AllReadyH.nil)
        refine step_app_ints rfl (.tmp 41) (.tmp 44) rfl w4.heap.size g12 T.length cap12 T rfl D.own (some ⟨b0, 0, none⟩) 1 1 [hv] rfl D.one.rowI (by omega) D.hb.size ?_
        intro g13 cap13 V13 hown13 hgr13 hat13
        have R := D.toHoleS.app hown13 hgr13 hat13
        refine hK.out _ _ R.hb (fun _ => ?_)
        clear hK K D hown13 hgr13 hat13
        refine wpAnyH_ready (rs := [12]) (by kernel_rfl) (by simp) (AllReadyH.cons rfl (fun K hK => ?_) AllReadyH.nil)
        go_simp
        have HP2 := HPAIR.out V13 g13 cap13 R.hb (own_rowH R.own)
        refine HP2.mono ?_
        rintro e w5 ⟨R5, cr5, m1, left5, tt5, BB5, rfl, _, _, _, hmx5, hb5⟩
        have hbd := R.hb.trans (hb5.mono R.hb.size)
        refine hK.out _ _ hbd (fun _ => ?_)
        clear hK K HP2 R hb5
        refine wpAnyH_take (i := 13) (v := ?_) rfl (by kernel_rfl) (by kernel_rfl) (by kernel_rfl) (fun _ _ _ h => h) (Or.inl ⟨by rfl, ?hy⟩) (by assumption) ?_
        case hy => (intro w hSw; have hcw : ∀ p o, p < w4.heap.size → w.cell? ⟨p, o, none⟩ = w4.cell? ⟨p, o, none⟩ := (fun p o h => hSw.cell (p := ⟨p, o, none⟩) h); clear hSw; go_simp; try with_reducible rfl)
        refine wpAnyH_take (i := 14) (v := ?_) rfl (by kernel_rfl) (by kernel_rfl) (by kernel_rfl) (fun _ _ _ h => h) (Or.inl ⟨by rfl, ?hy⟩) (by assumption) ?_
        case hy => (intro w hSw; have hcw : ∀ p o, p < w4.heap.size → w.cell? ⟨p, o, none⟩ = w4.cell? ⟨p, o, none⟩ := (fun p o h => hSw.cell (p := ⟨p, o, none⟩) h); clear hSw; go_simp; try with_reducible rfl)
        refine wpAnyH_take (i := 15) (v := ?_) rfl (by kernel_rfl) (by kernel_rfl) (by kernel_rfl) (fun _ _ _ h => h) (Or.inl ⟨by rfl, ?hy⟩) (by assumption) ?_
        case hy => (intro w hSw; have hcw : ∀ p o, p < w4.heap.size → w.cell? ⟨p, o, none⟩ = w4.cell? ⟨p, o, none⟩ := (fun p o h => hSw.cell (p := ⟨p, o, none⟩) h); clear hSw; go_simp; try with_reducible rfl)
        refine wpAnyH_take (i := 16) (v := ?_) rfl (by kernel_rfl) (by kernel_rfl) (by kernel_rfl) (fun _ _ _ h => h) (Or.inl ⟨by rfl, ?hy⟩) (by assumption) ?_
        case hy => (intro w hSw; have hcw : ∀ p o, p < w4.heap.size → w.cell? ⟨p, o, none⟩ = w4.cell? ⟨p, o, none⟩ := (fun p o h => hSw.cell (p := ⟨p, o, none⟩) h); clear hSw; go_simp; try with_reducible rfl)
        refine wpAnyH_take (i := 17) (v := ?_) rfl (by kernel_rfl) (by kernel_rfl) (by kernel_rfl) (fun _ _ _ h => h) (Or.inl ⟨by rfl, ?hy⟩) (by assumption) ?_
        case hy => (intro w hSw; have hcw : ∀ p o, p < w4.heap.size → w.cell? ⟨p, o, none⟩ = w4.cell? ⟨p, o, none⟩ := (fun p o h => hSw.cell (p := ⟨p, o, none⟩) h); clear hSw; go_simp; try with_reducible rfl)
        refine wpAnyH_take (i := 18) (v := ?_) rfl (by kernel_rfl) (by kernel_rfl) (by kernel_rfl) (fun _ _ _ h => h) (Or.inl ⟨by rfl, ?hy⟩) (by assumption) ?_
        case hy => (intro w hSw; have hcw : ∀ p o, p < w4.heap.size → w.cell? ⟨p, o, none⟩ = w4.cell? ⟨p, o, none⟩ := (fun p o h => hSw.cell (p := ⟨p, o, none⟩) h); clear hSw; go_simp; try with_reducible rfl)
        refine wpAnyH_take (i := 19) (v := ?_) rfl (by kernel_rfl) (by kernel_rfl) (by kernel_rfl) (fun _ _ _ h => h) (Or.inl ⟨by rfl, ?hy⟩) (by assumption) ?_
        case hy => (intro w hSw; have hcw : ∀ p o, p < w4.heap.size → w.cell? ⟨p, o, none⟩ = w4.cell? ⟨p, o, none⟩ := (fun p o h => hSw.cell (p := ⟨p, o, none⟩) h); clear hSw; go_simp; try with_reducible rfl)
        refine wpAnyH_done (by kernel_rfl) ?_ _
        go_wp2_with fail
        go_meet
        case rel => exact ⟨m1, rfl, rfl, by rw [HHV.out, List.length_append] at hmx5; exact hmx5, hbd⟩
    case rest =>
      obtain ⟨m1, rfl, rfl, hm1, hb8⟩ := hcut
      have hmore := HMX.out.more hm1 (fun x k hk => fit_more x k hk)
      have hux : 0 ≤ ux ∧ ux ≤ 255 := by
        have h1 := HUX.out
        simp only [Lit.wf, Bool.and_eq_true, decide_eq_true_eq] at h1
        rw [show IntKind.u8.min = 0 by rfl, show IntKind.u8.max = 255 by rfl] at h1
        exact h1
      obtain ⟨sp1, sp2, sp3⟩ := spanB_iff.1 HSP.out
      obtain ⟨lo2, hlo2⟩ : ∃ v, v = max (-1000000) (lo - ux) := ⟨_, rfl⟩
      obtain ⟨hi2, hhi2⟩ : ∃ v, v = min 1000000 (hi + ux) := ⟨_, rfl⟩
      have hmax := hlo2.symm
      have hmin := hhi2.symm
      have HB2 : Hid (spanB lo2 hi2 = true ∧ lo2 ≤ lo ∧ hi ≤ hi2) := ⟨spanB_iff.2 ⟨by omega, by omega, by omega⟩, by omega, by omega⟩
      have kX5 := kX4.later hb8
      have rS5 := rS4.later hb8
      have rT5 := rT4.later hb8
      have hb9 := hb5.trans (hb8.mono hb5.size)
      have kC := Blk.new wc 26 #[.int .i64 lo2, .int .i64 hi2]
      have hb10 : Below wc.heap.size wc (wc.alloc (.cells #[.int .i64 lo2, .int .i64 hi2] 26)) := (Below.refl _ _).alloc (Nat.le_refl _) _
      have kX6 := kX5.later hb10
      have rS6 := rS5.later hb10
      have rT6 := rT5.later hb10
      have hb11 := hb9.trans (hb10.mono hb9.size)
      have cX5 := kX5.cell
      have lX5 := kX5.lt
      have u1 := hux.1
      have u2 := hux.2
      clear hlo2 hhi2 hm1 hb8 hb9 hb10 kX4 rS4 rT4 hb5 kX5 rS5 rT5 hux
      go_upto_region 7 with fail
      clear cX5 lX5
      revert kC kX6 rS6 rT6 hb11
      generalize wc.alloc (.cells #[.int .i64 lo2, .int .i64 hi2] 26) = w6
      generalize wc.heap.size = C6
      intro kC kX6 rS6 rT6 hb11
      have cX6 := kX6.cell
      have lX6 := kX6.lt
      have cC6 := kC.cell
      have lC6 := kC.lt
      have HP7 := Lib.hid (pair_yes A1 B1 c1 d1 S T lo2 hi2 w6 rS6 rT6 (piecesB_iff.2 ⟨HS.out, HH.out, l1, l2, HB2.out.1⟩))
      clear kC kX6 rS6 rT6
      go_wp2_with fail
      refine HP7.out.mono ?_
      rintro e w7 ⟨R7, c7, o1, left7, tt7, BB7, rfl, _, _, _, hmx7, hb12⟩
      have hwider := HMX.out.wider hmx7 (fun x k h => fit_wider HB2.out.2.1 HB2.out.2.2 x k h)
      have hb13 := hb11.trans (hb12.mono hb11.size)
      obtain ⟨e1, e2⟩ := hmore
      have x1 : decide ((nn : Int) ≤ (m1 : Int)) = true := decide_eq_true (by omega)
      have x2 : decide ((m1 : Int) ≤ (nn : Int) + 1) = true := decide_eq_true (by omega)
      have x3 : decide ((nn : Int) ≤ (o1 : Int)) = true := decide_eq_true (by omega)
      clear HP7 hmx7 hb11 hb12 cX6 lX6 cC6 lC6
      go_wp2_with fail
      refine (lives_any _).mono ?_
      rintro e w8 ⟨rfl, hb14⟩
      go_wp2_with fail
      go_ret
      exact ⟨rfl, hb13.trans (hb14.mono hb13.size)⟩
end fitMore
end Go.Proofs.Ytpklcjbdmikbdaa
namespace Go.Proofs.Ytpklcjbdmikbdaa.fitMore
open Go.ChangeShapes Go.WideShapes Go.ChangeAt Go.RowKit


set_option maxHeartbeats 2000000 in
set_option maxHeartbeats 4000000 in
set_option maxRecDepth 100000 in
theorem lifted (os : Os) (started : os.Started) (H : Type) (enc : TypeId × Value → H) :
    ReturnsInHanded {} Try.checked os 8 .any (Rows.fitMoreSpec.pre6 enc Try.prog Try.f8 Rows.fitMoreRow.domain false) (Rows.fitMoreSpec.post enc Try.prog Try.f8 false true false false) := by
  refine returnsInHanded_of_change (C := Try.checked) Try.own started (by kernel_rfl) Try.func8
    (ChangeSpec.witness6 (enc := enc) (C := Try.checked) false ⟨#[], #[.agg #[.slice none 0 0, .slice none 0 0, .int .i64 0, .int .i64 0], .int .i64 0, .int .u8 0], []⟩ 8 (by kernel_rfl) (by kernel_rfl) (by kernel_rfl) (by kernel_rfl)) ?_
  intro W base args ds gs before hval0 hW hcnd _
  have hval : ∀ (j : Nat) t v, Try.f8.params[j]? = some t → args[j]? = some v → Value.okWide Try.prog W .any base t v := hval0
  have hW' := hW
  obtain ⟨p, q, hA0, hV, rfl, hfz, hnd⟩ := hW
  have hA : DataW.TrodAll enc Try.prog W 0 (fun _ => true) true Try.f8.params.toList args.toList ds p := hA0
  rw [Try.params8] at hA hval
  obtain ⟨v0, vs0, d0, ds0, p0, q0, hargs, rfl, rfl, h0, r0⟩ := trodAll_cons hA
  obtain ⟨v1, vs1, d1, ds1, p1, q1, rfl, rfl, rfl, h1, r1⟩ := trodAll_cons r0
  obtain ⟨v2, vs2, d2, ds2, p2, q2, rfl, rfl, rfl, h2, r2⟩ := trodAll_cons r1
  obtain ⟨rfl, rfl, rfl⟩ := trodAll_nil r2
  obtain rfl : args = #[v0, v1, v2] := by cases args; simp_all
  obtain ⟨rfl, rfl⟩ := trodVars_none hV
  obtain ⟨A0, B0, n0, c0, m0, e0, s0, t0, lo0, hi0, rfl, x0, y0, u0, x0b, y0b, u0b⟩ := open_Q (hval 0 37 v0 rfl rfl) h0
  obtain ⟨a1, rfl, rfl, rfl, w1⟩ := open_int Try.underlying3 (hval 1 3 v1 rfl rfl) h1
  obtain ⟨a2, rfl, rfl, rfl, w2⟩ := open_int Try.underlying5 (hval 2 5 v2 rfl rfl) h2
  refine (walk A0 B0 n0 c0 m0 e0 lo0 hi0 a1 a2 s0 t0 W x0 y0 u0 x0b y0b u0b w2).mono fun e W' ⟨he, hb⟩ => ?_
  exact ⟨_, he, law_post rfl (by kernel_rfl) (by kernel_rfl) hW' rfl rfl rfl hb⟩

set_option maxHeartbeats 4000000 in
set_option maxRecDepth 100000 in
theorem facts : joinedFacts Try.prog 8 Try.f8 Rows.fitMoreSpec Rows.fitMoreRow = true := by
  unfold joinedFacts
  repeat' (with_reducible refine and_t ?_ ?_)
  all_goals first
    | with_reducible exact Try.enters
    | (rw [Try.finals]; as_aux_lemma => kernel_rfl)
    | (rw [Try.made]; as_aux_lemma => kernel_rfl)
    | (as_aux_lemma => kernel_rfl)

theorem proved : Rows.FitMoreSaid :=
  OpenClaim.holds_of_wide 8 Try.f8 rfl rfl rfl rfl rfl rfl rfl ⟨rfl, rfl, rfl, rfl, rfl⟩ rfl rfl rfl rfl rfl (by as_aux_lemma => kernel_rfl) Try.func8 facts
    (of_decide_eq_true (by as_aux_lemma => kernel_rfl)) (by unfold Func.isWrapper; rw [if_neg (of_decide_eq_false (by kernel_rfl))]; exact ⟨rfl, rfl⟩)
    (fun os started H enc _ => lifted os started H enc)
#print axioms proved
end Go.Proofs.Ytpklcjbdmikbdaa.fitMore
