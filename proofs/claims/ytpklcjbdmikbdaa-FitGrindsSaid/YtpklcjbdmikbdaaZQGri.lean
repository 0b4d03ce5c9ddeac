/-
Proved: FitGrinds: Grind returns the holes with the least grinding, the lexicographically least of several, or the error that the document names.
  Conditions: none.
-/
import Derived.Test.YtpklcjbdmikbdaaGU
import Derived.Test.YtpklcjbdmikbdaaGO
namespace Go.Proofs.Ytpklcjbdmikbdaa
open Go.RowKit

theorem sapp_intsD {ops : Array Oper} {o : Oper} {a : Act} {w : World} {K : Act → World → Prop} {Q : Exit → Act → World → Prop} {E : Prop} (hgd : o.guard = none) (s x : Operand)
    (ho : o.op = .call { callee := .builtin .append, args := #[s, x], argTypes := #[23, 23] }) (base g n c : Nat) (xs : List Int) (hs : a.eval s = .slice (some ⟨g, 0, none⟩) n c) (hown : w.ownsRow base 3 1 (.slice (some ⟨g, 0, none⟩) n c) n (xs.map (Value.int .i64)))
    (ao : Option Addr) (m d : Nat) (l : List Int) (hx : a.eval x = .slice ao m d) (hr : RowI w ao m l) (hn : n + m ≤ 100000) (hbase : base ≤ w.heap.size)
    (h : ∀ g' cap w', w'.ownsRow base 3 1 (.slice (some ⟨g', 0, none⟩) (n + m) cap) (n + m) ((xs ++ l).map (Value.int .i64)) → w.grownBy w' (some g) → (g' = g ∨ g' = w.heap.size) → K (a.put o.dst (.slice (some ⟨g', 0, none⟩) (n + m) cap)) w') :
    if Region.wanted o (yielded ops a.tmps) = true then Oper.wp Try.prog o a w K Q else E := by
  obtain ⟨i0, hi, hz0, hz1, hz2⟩ := info_parts info3
  rcases Nat.eq_zero_or_pos m with z | z
  · subst z
    have hl : l = [] := List.eq_nil_of_length_eq_zero hr.1
    subst hl
    have hsrc : Src Try.prog i0.size 23 (.slice ao 0 d) 0 [] w := by
      cases ao with
      | none => exact Src.ofNil w Try.underlying23 d
      | some ad => exact Src.ofSlice w Try.underlying23 ad 0 d [] (by simp) (by simp) (by simp)
    have hle : n ≤ c := by
      rcases hown.2 with ⟨h1, _⟩ | ⟨g', cap, cur, h1, _, _, h2, _⟩
      · simp at h1
      · simp at h1; omega
    have hrun := run_append_nothing (P := Try.prog) w 23 23 o.type 3 i0 Try.underlying23 hi (some ⟨g, 0, none⟩) n c hle _ hsrc
    have hw : Region.wanted o (yielded ops a.tmps) = true := by simp [Region.wanted, hgd]
    rw [if_pos hw]
    unfold Oper.wp
    simp [execOp, ho, resolve, invoke, builtin, hs, hx, hrun, Result.andThen]
    exact h g c w (by simpa using hown) (World.grownBy.refl _ _) (.inl rfl)
  · obtain ⟨ad, e, _, _⟩ := hr.2 z
    subst e
    refine step_append_lies w hgd s x 23 ho base 3 i0 (.int .i64 0) 1 8 Try.underlying23 hi hz0 hz1 hz2 rfl (by decide) _ n _ hs hown ad m d (l.map (Value.int .i64)) hx (by rw [List.length_map, hr.1]; omega) (rowI_news hr z) (ints_one _) z (by unfold maxLen; omega) (by omega) hbase _ rfl ?_
    intro g' cap w' hown' hgr hat _
    refine h g' cap w' (by rw [List.map_append]; exact hown') hgr ?_
    rcases hat with e | e
    · exact .inl (by simpa [Value.ownBlock] using e.symm)
    · exact .inr e
/-- A slice that grows, beside the world wd. -/
structure GrpS (wd V : World) (g n c : Nat) (xs : List Int) : Prop where
  hb : Below wd.heap.size wd V
  own : V.ownsRow wd.heap.size 3 1 (.slice (some ⟨g, 0, none⟩) n c) n (xs.map (Value.int .i64))
/-- A slice of one integer, beside the world wd. -/
structure GrpB (wd V : World) (b : Nat) (x : Int) : Prop where
  hb : Below wd.heap.size wd V
  one : RowH V (some ⟨b, 0, none⟩) 1 [x]
  lt : b < V.heap.size
/-- Both. -/
structure GrpD (wd V : World) (g n c : Nat) (xs : List Int) (b : Nat) (x : Int) : Prop extends GrpS wd V g n c xs where
  one : RowH V (some ⟨b, 0, none⟩) 1 [x]
  lt : b < V.heap.size
  ne : g ≠ b
section
variable {wd V V' : World} {g n c g' n' c' b : Nat} {xs xs' : List Int} {x : Int}
theorem GrpS.start (h : Below wd.heap.size wd V) : GrpS wd (V.alloc (.cells #[] 3)) V.heap.size 0 0 [] :=
  ⟨h.trans (((Below.refl _ _).alloc (Nat.le_refl _) _).mono h.size), World.ownsRow_made (base := wd.heap.size) (e := 3) (size := 1) V #[] 0 h.size (by unfold maxLen; omega) (by simp)⟩
theorem grp_one (V : World) (x : Int) : RowH (V.alloc (.cells #[.int .i64 x] 3)) (some ⟨V.heap.size, 0, none⟩) 1 [x] :=
  RowH.of_row (RowB.of (l := [x]) (by simpa [rowc] using Blk.new V 3 #[.int .i64 x])) rfl
theorem GrpB.start (h : Below wd.heap.size wd V) (x : Int) : GrpB wd (V.alloc (.cells #[.int .i64 x] 3)) V.heap.size x :=
  ⟨h.trans (((Below.refl _ _).alloc (Nat.le_refl _) _).mono h.size), grp_one V x, by simp⟩
theorem GrpB.start' (h : GrpB wd V b x) : GrpD wd (V.alloc (.cells #[] 3)) V.heap.size 0 0 [] b x :=
  ⟨GrpS.start h.hb, h.one.later ((Below.refl _ _).alloc (Nat.le_refl _) _), by have := h.lt; simp; omega, by have := h.lt; omega⟩
theorem GrpS.glt (h : GrpS wd V g n c xs) : g < V.heap.size := (World.ownsRow.lt h.own g rfl).2
theorem GrpS.build (h : GrpS wd V g n c xs) (x : Int) : GrpD wd (V.alloc (.cells #[.int .i64 x] 3)) g n c xs V.heap.size x :=
  ⟨⟨h.hb.trans (((Below.refl _ _).alloc (Nat.le_refl _) _).mono h.hb.size), own_later h.own ((Below.refl _ _).alloc (Nat.le_refl _) _)⟩, grp_one V x, by simp, by have := h.glt; omega⟩
theorem GrpS.app (h : GrpS wd V g n c xs) (ho : V'.ownsRow wd.heap.size 3 1 (.slice (some ⟨g', 0, none⟩) n' c') n' (xs'.map (Value.int .i64))) (hg : V.grownBy V' (some g)) (_ : g' = g ∨ g' = V.heap.size) : GrpS wd V' g' n' c' xs' :=
  ⟨h.hb.grown hg h.hb.size (fun q hq => by cases hq; exact (World.ownsRow.lt h.own g rfl).1), ho⟩
theorem GrpD.app (h : GrpD wd V g n c xs b x) (ho : V'.ownsRow wd.heap.size 3 1 (.slice (some ⟨g', 0, none⟩) n' c') n' (xs'.map (Value.int .i64))) (hg : V.grownBy V' (some g)) (hat : g' = g ∨ g' = V.heap.size) : GrpD wd V' g' n' c' xs' b x :=
  ⟨h.toGrpS.app ho hg hat, h.one.grown hg (fun q e => by cases e; exact fun e => h.ne e.symm), by have := h.lt; have := hg.size; omega, by
    have h1 := h.ne
    have h2 := h.lt
    rcases hat with e | e <;> omega⟩
end
/-- What the search leaves. -/
def GriR (st : List Int × Int) (w : World) (e : Ending) (w' : World) : Prop :=
  ∃ R c', e = .returned (.tuple #[.slice R st.1.length c', .int .i64 st.2]) ∧ RowH w' R st.1.length st.1 ∧ Below w.heap.size w w'
set_option maxRecDepth 100000 in
set_option maxHeartbeats 16000000 in
theorem rGrind_any {A B : Option Addr} {ca cb : Nat} {s h : List Int} {lo hi : Int} (hs : Sizes s) (hh : Sizes h) (l1 : -1000000 ≤ lo) (l2 : lo ≤ 1000000) (n1 : s.length ≤ 64) (n2 : h.length ≤ 64) (gv : List Int → Int) (hgv : gv = grv (fitU s h hi) (gcost s h lo) h.length s.length) :
    ∀ (d : Nat) (b best : List Int) (least : Int) (PB PS : Option Addr) (cpb cps : Nat) (w : World), b.length + d = s.length → RowH w A s.length s → RowH w B h.length h → RowH w PB b.length b → RowH w PS best.length best →
      Calls Try.prog 44 #[.slice A s.length ca, .slice B h.length cb, .agg #[.int .i64 lo, .int .i64 hi], .slice PB b.length cpb, .slice PS best.length cps, .int .i64 least] w (GriR (gsub gv h.length d b (best, least)) w) := by
  intro d
  induction d with
  | zero =>
    intro b best least PB PS cpb cps w hbd rA rB rPB rPS
    have hb0 : Below w.heap.size w (w.alloc (.cells #[.int .i64 lo, .int .i64 hi] 26)) := (Below.refl _ _).alloc (Nat.le_refl _) _
    have kC := Blk.new w 26 #[.int .i64 lo, .int .i64 hi]
    have HG := Lib.hid (rGround_any A B PB s.length ca h.length cb b.length cpb s h b lo hi _ (rA.later hb0) (rB.later hb0) (rPB.later hb0) hs hh l1 l2 (by omega) (by omega) (by omega))
    rw [show grv (fitU s h hi) (gcost s h lo) h.length s.length b = gv b by rw [hgv]] at HG
    have heq : ((b.length : Int) == (s.length : Int)) = true := by simp; omega
    have HPB := Lib.hid rPB
    have HPS := Lib.hid rPS
    have hbl : b.length ≤ 64 := by omega
    clear rA rB rPB rPS hbd hgv
    have HST : Hid (gsub gv h.length 0 b (best, least) = gstep gv (best, least) b) := gsub_zero
    obtain ⟨gn, hgn⟩ : ∃ g, g = gv b := ⟨_, rfl⟩
    have HGN := Lib.hid hgn
    rw [← hgn] at HG
    clear hgn
    have cC := kC.cell
    have lC := kC.lt
    go_enter Try.func44, Try.ntmps44
    go_wp2_with fail
    refine HG.out.mono ?_
    rintro e w2 ⟨rfl, hb1⟩
    have hb2 := hb0.trans (hb1.mono hb0.size)
    clear HG cC lC kC hb0 hb1
    by_cases hc : 0 ≤ gn ∧ (least < 0 ∨ gn < least)
    · have HS2 : Hid (gsub gv h.length 0 b (best, least) = (b, gn)) := by
        show _ = _
        rw [HST.out]
        unfold gstep
        rw [if_pos (by rw [← HGN.out]; exact hc), ← HGN.out]
      have hd1 : decide (gn ≥ 0) = true := decide_eq_true hc.1
      have hd1' : decide (0 ≤ gn) = true := decide_eq_true hc.1
      have hba : Below w2.heap.size w2 (w2.alloc (.cells #[] 3)) := (Below.refl _ _).alloc (Nat.le_refl _) _
      have hb3 := hb2.trans (hba.mono hb2.size)
      have HO3 : Hid ((w2.alloc (.cells #[] 3)).ownsRow w.heap.size 3 1 (.slice (some ⟨w2.heap.size, 0, none⟩) 0 0) 0 (([] : List Int).map (Value.int .i64))) := World.ownsRow_made (base := w.heap.size) (e := 3) (size := 1) w2 #[] 0 hb2.size (by unfold maxLen; omega) (by simp)
      have HR3 := Lib.hid (HPB.out.later hb3).rowI
      have HB3 := Lib.hid hb3
      clear hba hb3
      have key : least < 0 ∨ (¬ least < 0 ∧ gn < least) := by omega
      clear hc
      rcases key with h0 | ⟨h0, h1⟩
      · have hd2 : decide (least < 0) = true := decide_eq_true h0
        clear h0
        go_wp2_with (at_builtin; refine app_intsD _ rfl (.tmp 39) (.tmp 40) rfl w.heap.size w2.heap.size 0 0 [] rfl HO3.out PB b.length cpb b rfl HR3.out (by omega) HB3.out.size ?_)
        all_goals
          intro g9 c9 w9 hown9 hgr9 _
          have hown8 : w9.ownsRow w.heap.size 3 1 (.slice (some ⟨g9, 0, none⟩) b.length c9) b.length (b.map (Value.int .i64)) := by simpa using hown9
          have HR9 := Lib.hid (own_rowH hown8)
          have HB9 := Lib.hid (HB3.out.grown hgr9 HB3.out.size (fun q hq => by cases hq; exact (World.ownsRow.lt HO3.out _ rfl).1))
          clear hown9 hgr9 hown8
          go_wp2_with fail
          go_ret2
          rw [HS2.out]
          exact ⟨_, c9, rfl, HR9.out, HB9.out⟩
      · have hd2 : decide (least < 0) = false := decide_eq_false h0
        have hd3 : decide (gn < least) = true := decide_eq_true h1
        clear h0 h1
        go_wp2_with (at_builtin; refine app_intsD _ rfl (.tmp 39) (.tmp 40) rfl w.heap.size w2.heap.size 0 0 [] rfl HO3.out PB b.length cpb b rfl HR3.out (by omega) HB3.out.size ?_)
        all_goals
          intro g9 c9 w9 hown9 hgr9 _
          have hown8 : w9.ownsRow w.heap.size 3 1 (.slice (some ⟨g9, 0, none⟩) b.length c9) b.length (b.map (Value.int .i64)) := by simpa using hown9
          have HR9 := Lib.hid (own_rowH hown8)
          have HB9 := Lib.hid (HB3.out.grown hgr9 HB3.out.size (fun q hq => by cases hq; exact (World.ownsRow.lt HO3.out _ rfl).1))
          clear hown9 hgr9 hown8
          go_wp2_with fail
          go_ret2
          rw [HS2.out]
          exact ⟨_, c9, rfl, HR9.out, HB9.out⟩
    · have HS2 : Hid (gsub gv h.length 0 b (best, least) = (best, least)) := by
        show _ = _
        rw [HST.out]
        unfold gstep
        rw [if_neg (by rw [← HGN.out]; exact hc)]
      have HPS2 := Lib.hid (HPS.out.later hb2)
      have key : ¬ 0 ≤ gn ∨ (0 ≤ gn ∧ ¬ least < 0 ∧ ¬ gn < least) := by omega
      clear hc
      rcases key with h0 | ⟨h0, h1, h2⟩
      · have hd1 : decide (gn ≥ 0) = false := decide_eq_false h0
        have hd1' : decide (0 ≤ gn) = false := decide_eq_false h0
        clear h0
        go_wp2_with fail
        go_ret2
        rw [HS2.out]
        exact ⟨PS, cps, rfl, HPS2.out, hb2⟩
      · have hd1 : decide (gn ≥ 0) = true := decide_eq_true h0
        have hd1' : decide (0 ≤ gn) = true := decide_eq_true h0
        have hd2 : decide (least < 0) = false := decide_eq_false h1
        have hd3 : decide (gn < least) = false := decide_eq_false h2
        clear h0 h1 h2
        go_wp2_with fail
        go_ret2
        rw [HS2.out]
        exact ⟨PS, cps, rfl, HPS2.out, hb2⟩
  | succ d ih =>
    intro b best least PB PS cpb cps w hbd rA rB rPB rPS
    have hb0 : Below w.heap.size w (w.alloc (.cells #[.int .i64 lo, .int .i64 hi] 26)) := (Below.refl _ _).alloc (Nat.le_refl _) _
    have kC := Blk.new w 26 #[.int .i64 lo, .int .i64 hi]
    have heq : ((b.length : Int) == (s.length : Int)) = false := by simp; omega
    have hbl : b.length ≤ 64 := by omega
    have hbd2 : b.length + 1 + d = s.length := by omega
    have HRA := Lib.hid (rA.later hb0)
    have HRB := Lib.hid (rB.later hb0)
    have HPB := Lib.hid (rPB.later hb0)
    have rPS := rPS.later hb0
    clear rA rB rPB hbd hgv
    have HFIN : Hid (gsub gv h.length (d + 1) b (best, least) = gpre gv h.length d b (best, least) h.length) := gsub_succ
    go_enter Try.func44, Try.ntmps44
    go_upto_region 6 with fail
    revert hb0 kC HRA HRB HPB rPS
    generalize w.alloc (.cells #[.int .i64 lo, .int .i64 hi] 26) = w1
    generalize hNe : w.heap.size = N
    intro hb0 kC HRA HRB HPB rPS
    have HNe := Lib.hid hNe
    clear hNe
    go_wp2_with fail
    go_loopw [4, 5, 15, 16, 17] (fun vb vl i _ _ wr => ∃ (k : Nat) (st : List Int × Int) (PS : Option Addr) (cps : Nat), k ≤ h.length ∧ i = .int .i64 k ∧ vb = .slice PS st.1.length cps ∧ vl = .int .i64 st.2 ∧ Hid (st = gpre gv h.length d b (best, least) k) ∧ RowH wr PS st.1.length st.1 ∧ Below w1.heap.size w1 wr) (fun _ _ i _ _ _ => h.length - (RowKit.intOf i).toNat)
    case atStart => exact ⟨0, (best, least), PS, cps, Nat.zero_le _, rfl, rfl, rfl, gpre_zero.symm, rPS, Below.refl _ _⟩
    case round =>
      clear rPS
      obtain ⟨wq, hwq⟩ : ∃ x, x = wr := ⟨_, rfl⟩
      subst hwq
      obtain ⟨k, ⟨sb, sl⟩, PS2, cps2, hk, rfl, rfl, rfl, HST, rPS, hb⟩ := hrel
      by_cases hlt : k < h.length
      · have hd : decide ((k : Int) < (h.length : Int)) = true := decide_eq_true (by omega)
        have hki : (k : Int) < (h.length : Int) := by omega
        have HPBq := Lib.hid (HPB.out.later hb)
        go_wp2_with fail
        go_loopw [16, 17] (fun f j wr => ∃ (j' : Nat) (fb : Bool), j' ≤ b.length ∧ j = .int .i64 j' ∧ f = .bool fb ∧ Hid (fb = true ↔ ∀ t : Nat, t < j' → b[t]? ≠ some (k : Int)) ∧ Hid (wr = wq)) (fun _ j _ => b.length - (RowKit.intOf j).toNat)
        case atStart => exact ⟨0, true, Nat.zero_le _, rfl, rfl, ⟨fun _ t ht => by omega, fun _ => rfl⟩, rfl⟩
        case round =>
          obtain ⟨j, fb, hj, rfl, rfl, HF, hW⟩ := hrel
          obtain rfl := hW.out
          by_cases hlj : j < b.length
          · have hdj : decide ((j : Int) < (b.length : Int)) = true := decide_eq_true (by omega)
            have hji : (j : Int) < (b.length : Int) := by omega
            obtain ⟨gp, hPBe, hgp, hcp⟩ := HPBq.out.at_ hlj
            obtain ⟨x, hx⟩ : ∃ x, b[j]? = some x := ⟨_, List.getElem?_eq_getElem hlj⟩
            rw [List.getD_eq_getElem?_getD, hx, Option.getD_some] at hcp
            have HX := Lib.hid hx
            subst hPBe
            clear hx
            cases fb with
            | false =>
              have HF2 : Hid (false = true ↔ ∀ t : Nat, t < j + 1 → b[t]? ≠ some (k : Int)) := ⟨fun e => (by cases e), fun hall => HF.out.2 fun t ht => hall t (by omega)⟩
              clear HF
              go_wp2_with fail
              go_roundw
              case rel => exact ⟨j + 1, false, by omega, by go_num, rfl, HF2, (by first | exact hW | exact (True.intro : True))⟩
              case measure => simp [RowKit.intOf]; omega
            | true =>
              by_cases he : x = (k : Int)
              · have hne : (x != (k : Int)) = false := by simp [he]
                have HF2 : Hid (false = true ↔ ∀ t : Nat, t < j + 1 → b[t]? ≠ some (k : Int)) := ⟨fun e => (by cases e), fun hall => absurd (by rw [HX.out, he]) (hall j (by omega))⟩
                clear HF he
                go_wp2_with fail
                go_roundw
                case rel => exact ⟨j + 1, false, by omega, by go_num, rfl, HF2, (by first | exact hW | exact (True.intro : True))⟩
                case measure => simp [RowKit.intOf]; omega
              · have hne : (x != (k : Int)) = true := by simpa using he
                have HF2 : Hid (true = true ↔ ∀ t : Nat, t < j + 1 → b[t]? ≠ some (k : Int)) := ⟨fun _ t ht e => by
                  rcases Nat.lt_or_ge t j with h3 | h3
                  · exact HF.out.1 rfl t h3 e
                  · obtain rfl : t = j := by omega
                    rw [HX.out] at e
                    exact he (Option.some.inj e), fun _ => rfl⟩
                clear HF he
                go_wp2_with fail
                go_roundw
                case rel => exact ⟨j + 1, true, by omega, by go_num, rfl, HF2, (by first | exact hW | exact (True.intro : True))⟩
                case measure => simp [RowKit.intOf]; omega
          · obtain rfl : j = b.length := by omega
            have hdj : decide ((b.length : Int) < (b.length : Int)) = false := decide_eq_false (by omega)
            cases fb with
            | false =>
              have hin : (k : Int) ∈ b := Classical.byContradiction fun hn => by
                have := HF.out.2 fun t ht e => hn (List.mem_of_getElem? e)
                cases this
              have HST2 : Hid ((sb, sl) = gpre gv h.length d b (best, least) (k + 1)) := by
                show _ = _
                rw [gpre_skip hin]
                exact HST.out
              clear hin HF HST
              go_wp2_with fail
              go_roundw
              case rel => exact ⟨k + 1, (sb, sl), PS2, cps2, by omega, by go_num, rfl, rfl, HST2, rPS, hb⟩
              case measure => simp [RowKit.intOf]; omega
            | true =>
              have hni : (k : Int) ∉ b := fun hm => by
                obtain ⟨t, ht⟩ := List.getElem?_of_mem hm
                exact HF.out.1 rfl t (List.getElem?_eq_some_iff.1 ht).1 ht
              have HST2 : Hid (gsub gv h.length d (b ++ [(k : Int)]) (sb, sl) = gpre gv h.length d b (best, least) (k + 1)) := by
                show _ = _
                rw [gpre_take hni, ← HST.out]
              have HIH := Lib.hid fun (V : World) (g c : Nat) (hbV : Below wr.heap.size wr V) (hrow : RowH V (some ⟨g, 0, none⟩) (b.length + 1) (b ++ [(k : Int)])) => (show Calls Try.prog 44 #[.slice A s.length ca, .slice B h.length cb, .agg #[.int .i64 lo, .int .i64 hi], .slice (some ⟨g, 0, none⟩) (b.length + 1) c, .slice PS2 sb.length cps2, .int .i64 sl] V (GriR (gsub gv h.length d (b ++ [(k : Int)]) (sb, sl)) V) from by
                have e := hrow.1
                rw [← e]
                rw [← e] at hrow
                exact ih (b ++ [(k : Int)]) sb sl (some ⟨g, 0, none⟩) PS2 c cps2 V (by rw [e]; exact hbd2) ((HRA.out.later hb).later hbV) ((HRB.out.later hb).later hbV) hrow (rPS.later hbV))
              have kCq := kC.later hb
              obtain ⟨wq, hwq⟩ : ∃ x, x = wr := ⟨_, rfl⟩
              subst hwq
              clear hni HF HST hW
              have HPB := HPBq
              obtain ⟨sx, hsx⟩ : ∃ sx, sx = gsub gv h.length d (b ++ [(k : Int)]) (sb, sl) := ⟨_, rfl⟩
              rw [← hsx] at HIH HST2
              clear hsx
              have cC := kCq.cell
              have lC := kCq.lt
              have hbq := hb
              go_wp2_with fail
              refine region_held_var (S := fun V => Below wq.heap.size wq V) (by kernel_rfl) (Below.refl _ _).drew (fun V0 hV0 hb0' => ?_)
              clear hV0
              refine wpAnyH_take (i := 0) (v := ?_) rfl (by kernel_rfl) (by kernel_rfl) (by kernel_rfl) (fun _ _ _ h => h) (Or.inl ⟨by rfl, ?hy⟩) (by assumption) ?_
              case hy => (intro w hSw; have hcw : ∀ p o, p < wq.heap.size → w.cell? ⟨p, o, none⟩ = wq.cell? ⟨p, o, none⟩ := (fun p o h => hSw.cell (p := ⟨p, o, none⟩) h); clear hSw; go_simp; try with_reducible rfl)
              refine wpAnyH_take (i := 1) (v := ?_) rfl (by kernel_rfl) (by kernel_rfl) (by kernel_rfl) (fun _ _ _ h => h) (Or.inl ⟨by rfl, ?hy⟩) (by assumption) ?_
              case hy => (intro w hSw; have hcw : ∀ p o, p < wq.heap.size → w.cell? ⟨p, o, none⟩ = wq.cell? ⟨p, o, none⟩ := (fun p o h => hSw.cell (p := ⟨p, o, none⟩) h); clear hSw; go_simp; try with_reducible rfl)
              refine wpAnyH_take (i := 2) (v := ?_) rfl (by kernel_rfl) (by kernel_rfl) (by kernel_rfl) (fun _ _ _ h => h) (Or.inl ⟨by rfl, ?hy⟩) (by assumption) ?_
              case hy => (intro w hSw; have hcw : ∀ p o, p < wq.heap.size → w.cell? ⟨p, o, none⟩ = wq.cell? ⟨p, o, none⟩ := (fun p o h => hSw.cell (p := ⟨p, o, none⟩) h); clear hSw; go_simp; try with_reducible rfl)
              refine wpAnyH_take (i := 4) (v := ?_) rfl (by kernel_rfl) (by kernel_rfl) (by kernel_rfl) (fun _ _ _ h => h) (Or.inl ⟨by rfl, ?hy⟩) (by assumption) ?_
              case hy => (intro w hSw; have hcw : ∀ p o, p < wq.heap.size → w.cell? ⟨p, o, none⟩ = wq.cell? ⟨p, o, none⟩ := (fun p o h => hSw.cell (p := ⟨p, o, none⟩) h); clear hSw; go_simp; try with_reducible rfl)
              simp only [Act.put, List.getElem_toArray, List.getElem_cons_succ, List.getElem_cons_zero, List.setIfInBounds_toArray, List.set_cons_succ, List.set_cons_zero]
              refine wpAnyH_take (i := 6) (v := ?_) rfl (by kernel_rfl) (by kernel_rfl) (by kernel_rfl) (fun _ _ _ h => h) (Or.inl ⟨by rfl, ?hy⟩) (by assumption) ?_
              case hy => (intro w hSw; have hcw : ∀ p o, p < wq.heap.size → w.cell? ⟨p, o, none⟩ = wq.cell? ⟨p, o, none⟩ := (fun p o h => hSw.cell (p := ⟨p, o, none⟩) h); clear hSw; go_simp; try with_reducible rfl)
              refine wpAnyH_take (i := 9) (v := ?_) rfl (by kernel_rfl) (by kernel_rfl) (by kernel_rfl) (fun _ _ _ h => h) (Or.inl ⟨by rfl, ?hy⟩) (by assumption) ?_
              case hy => (intro w hSw; have hcw : ∀ p o, p < wq.heap.size → w.cell? ⟨p, o, none⟩ = wq.cell? ⟨p, o, none⟩ := (fun p o h => hSw.cell (p := ⟨p, o, none⟩) h); clear hSw; go_simp; try with_reducible rfl)
              refine wpAnyH_take (i := 10) (v := ?_) rfl (by kernel_rfl) (by kernel_rfl) (by kernel_rfl) (fun _ _ _ h => h) (Or.inl ⟨by rfl, ?hy⟩) (by assumption) ?_
              case hy => (intro w hSw; have hcw : ∀ p o, p < wq.heap.size → w.cell? ⟨p, o, none⟩ = wq.cell? ⟨p, o, none⟩ := (fun p o h => hSw.cell (p := ⟨p, o, none⟩) h); clear hSw; go_simp; try with_reducible rfl)
              simp only [Act.put, List.getElem_toArray, List.getElem_cons_succ, List.getElem_cons_zero, List.setIfInBounds_toArray, List.set_cons_succ, List.set_cons_zero]
              clear hb
              have hb := hb0'
              clear hb0' cC lC
              refine wpAnyH_ready (rs := [3, 7]) (by kernel_rfl) (by simp) (AllReadyH.cons rfl (fun K hK => ?q10) (AllReadyH.cons rfl (fun K hK => ?q11) AllReadyH.nil))
              case q10 =>
                go_simp
                have R2 := GrpS.start hb
                refine hK.out _ _ R2.hb (fun _ => ?_)
                clear hK K
                obtain ⟨g0, hge⟩ : ∃ b, b = V0.heap.size := ⟨_, rfl⟩
                rw [← hge] at R2 ⊢
                clear hge
                clear hb
                revert R2
                generalize V0.alloc (.cells #[] 3) = V2
                intro R2
                have R := R2
                clear R2
                refine wpAnyH_ready (rs := [5, 7]) (by kernel_rfl) (by simp) (AllReadyH.cons rfl (fun K hK => ?q30) (AllReadyH.cons rfl (fun K hK => ?q31) AllReadyH.nil))
                case q30 =>
                  refine sapp_intsD rfl (.tmp 71) (.tmp 72) rfl wq.heap.size g0 0 0 [] rfl R.own PB b.length cpb b rfl (HPB.out.later R.hb).rowI (by omega) R.hb.size ?_
                  intro g4 cap4 V4 hown4 hgr4 hat4
                  rw [Nat.zero_add, List.nil_append] at hown4
                  rw [Nat.zero_add]
                  have R2 := R.app hown4 hgr4 hat4
                  refine hK.out _ _ R2.hb (fun _ => ?_)
                  clear hK K R hown4 hgr4 hat4
                  have R := R2
                  clear R2
                  refine wpAnyH_ready (rs := [7]) (by kernel_rfl) (by simp) (AllReadyH.cons rfl (fun K hK => ?_) AllReadyH.nil)
                  go_simp
                  have D2 := R.build (k : Int)
                  refine hK.out _ _ D2.hb (fun _ => ?_)
                  clear hK K
                  obtain ⟨b0, hge⟩ : ∃ b, b = V4.heap.size := ⟨_, rfl⟩
                  rw [← hge] at D2 ⊢
                  clear hge
                  clear R
                  revert D2
                  generalize V4.alloc (.cells #[.int .i64 (k : Int)] 3) = V5
                  intro D2
                  have D := D2
                  clear D2
                  refine wpAnyH_ready (rs := [8]) (by kernel_rfl) (by simp) (AllReadyH.cons rfl (fun K hK => ?_) AllReadyH.nil)
                  refine sapp_intsD rfl (.tmp 73) (.tmp 75) rfl wq.heap.size g4 b.length cap4 b rfl D.own (some ⟨b0, 0, none⟩) 1 1 [(k : Int)] rfl D.one.rowI (by omega) D.hb.size ?_
                  intro g6 cap6 V6 hown6 hgr6 hat6
                  have R := D.toGrpS.app hown6 hgr6 hat6
                  refine hK.out _ _ R.hb (fun _ => ?_)
                  clear hK K D hown6 hgr6 hat6
                  refine wpAnyH_ready (rs := [11]) (by kernel_rfl) (by simp) (AllReadyH.cons rfl (fun K hK => ?_) AllReadyH.nil)
                  go_simp
                  refine (HIH.out V6 g6 cap6 R.hb (own_rowH R.own)).mono ?_
                  rintro e w5 ⟨R5, c5, rfl, hR5, hb5⟩
                  have hbd := R.hb.trans (hb5.mono R.hb.size)
                  refine hK.out _ _ hbd (fun _ => ?_)
                  clear hK K R hb5
                  refine wpAnyH_take (i := 12) (v := ?_) rfl (by kernel_rfl) (by kernel_rfl) (by kernel_rfl) (fun _ _ _ h => h) (Or.inl ⟨by rfl, ?hy⟩) (by assumption) ?_
                  case hy => (intro w hSw; have hcw : ∀ p o, p < wq.heap.size → w.cell? ⟨p, o, none⟩ = wq.cell? ⟨p, o, none⟩ := (fun p o h => hSw.cell (p := ⟨p, o, none⟩) h); clear hSw; go_simp; try with_reducible rfl)
                  refine wpAnyH_take (i := 13) (v := ?_) rfl (by kernel_rfl) (by kernel_rfl) (by kernel_rfl) (fun _ _ _ h => h) (Or.inl ⟨by rfl, ?hy⟩) (by assumption) ?_
                  case hy => (intro w hSw; have hcw : ∀ p o, p < wq.heap.size → w.cell? ⟨p, o, none⟩ = wq.cell? ⟨p, o, none⟩ := (fun p o h => hSw.cell (p := ⟨p, o, none⟩) h); clear hSw; go_simp; try with_reducible rfl)
                  refine wpAnyH_take (i := 14) (v := ?_) rfl (by kernel_rfl) (by kernel_rfl) (by kernel_rfl) (fun _ _ _ h => h) (Or.inl ⟨by rfl, ?hy⟩) (by assumption) ?_
                  case hy => (intro w hSw; have hcw : ∀ p o, p < wq.heap.size → w.cell? ⟨p, o, none⟩ = wq.cell? ⟨p, o, none⟩ := (fun p o h => hSw.cell (p := ⟨p, o, none⟩) h); clear hSw; go_simp; try with_reducible rfl)
                  refine wpAnyH_take (i := 15) (v := ?_) rfl (by kernel_rfl) (by kernel_rfl) (by kernel_rfl) (fun _ _ _ h => h) (Or.inl ⟨by rfl, ?hy⟩) (by assumption) ?_
                  case hy => (intro w hSw; have hcw : ∀ p o, p < wq.heap.size → w.cell? ⟨p, o, none⟩ = wq.cell? ⟨p, o, none⟩ := (fun p o h => hSw.cell (p := ⟨p, o, none⟩) h); clear hSw; go_simp; try with_reducible rfl)
                  refine wpAnyH_take (i := 16) (v := ?_) rfl (by kernel_rfl) (by kernel_rfl) (by kernel_rfl) (fun _ _ _ h => h) (Or.inl ⟨by rfl, ?hy⟩) (by assumption) ?_
                  case hy => (intro w hSw; have hcw : ∀ p o, p < wq.heap.size → w.cell? ⟨p, o, none⟩ = wq.cell? ⟨p, o, none⟩ := (fun p o h => hSw.cell (p := ⟨p, o, none⟩) h); clear hSw; go_simp; try with_reducible rfl)
                  refine wpAnyH_done (by kernel_rfl) ?_ _
                  have hbe := hbq.trans (hbd.mono hbq.size)
                  clear hbd hbq HIH kCq rPS
                  go_wp2_with fail
                  go_roundw
                  case rel => exact ⟨k + 1, sx, R5, c5, by omega, by go_num, rfl, rfl, HST2, hR5, hbe⟩
                  case measure => simp [RowKit.intOf]; omega
                case q31 =>
                  go_simp
                  have D2 := R.build (k : Int)
                  refine hK.out _ _ D2.hb (fun _ => ?_)
                  clear hK K
                  obtain ⟨b0, hge⟩ : ∃ b, b = V2.heap.size := ⟨_, rfl⟩
                  rw [← hge] at D2 ⊢
                  clear hge
                  clear R
                  revert D2
                  generalize V2.alloc (.cells #[.int .i64 (k : Int)] 3) = V7
                  intro D2
                  have D := D2
                  clear D2
                  refine wpAnyH_ready (rs := [5]) (by kernel_rfl) (by simp) (AllReadyH.cons rfl (fun K hK => ?_) AllReadyH.nil)
                  refine sapp_intsD rfl (.tmp 71) (.tmp 72) rfl wq.heap.size g0 0 0 [] rfl D.toGrpS.own PB b.length cpb b rfl (HPB.out.later D.toGrpS.hb).rowI (by omega) D.toGrpS.hb.size ?_
                  intro g8 cap8 V8 hown8 hgr8 hat8
                  rw [Nat.zero_add, List.nil_append] at hown8
                  rw [Nat.zero_add]
                  have R2 := D.app hown8 hgr8 hat8
                  refine hK.out _ _ R2.hb (fun _ => ?_)
                  clear hK K D hown8 hgr8 hat8
                  have D := R2
                  clear R2
                  refine wpAnyH_ready (rs := [8]) (by kernel_rfl) (by simp) (AllReadyH.cons rfl (fun K hK => ?_) AllReadyH.nil)
                  refine sapp_intsD rfl (.tmp 73) (.tmp 75) rfl wq.heap.size g8 b.length cap8 b rfl D.own (some ⟨b0, 0, none⟩) 1 1 [(k : Int)] rfl D.one.rowI (by omega) D.hb.size ?_
                  intro g9 cap9 V9 hown9 hgr9 hat9
                  have R := D.toGrpS.app hown9 hgr9 hat9
                  refine hK.out _ _ R.hb (fun _ => ?_)
                  clear hK K D hown9 hgr9 hat9
                  refine wpAnyH_ready (rs := [11]) (by kernel_rfl) (by simp) (AllReadyH.cons rfl (fun K hK => ?_) AllReadyH.nil)
                  go_simp
                  refine (HIH.out V9 g9 cap9 R.hb (own_rowH R.own)).mono ?_
                  rintro e w5 ⟨R5, c5, rfl, hR5, hb5⟩
                  have hbd := R.hb.trans (hb5.mono R.hb.size)
                  refine hK.out _ _ hbd (fun _ => ?_)
                  clear hK K R hb5
                  refine wpAnyH_take (i := 12) (v := ?_) rfl (by kernel_rfl) (by kernel_rfl) (by kernel_rfl) (fun _ _ _ h => h) (Or.inl ⟨by rfl, ?hy⟩) (by assumption) ?_
                  case hy => (intro w hSw; have hcw : ∀ p o, p < wq.heap.size → w.cell? ⟨p, o, none⟩ = wq.cell? ⟨p, o, none⟩ := (fun p o h => hSw.cell (p := ⟨p, o, none⟩) h); clear hSw; go_simp; try with_reducible rfl)
                  refine wpAnyH_take (i := 13) (v := ?_) rfl (by kernel_rfl) (by kernel_rfl) (by kernel_rfl) (fun _ _ _ h => h) (Or.inl ⟨by rfl, ?hy⟩) (by assumption) ?_
                  case hy => (intro w hSw; have hcw : ∀ p o, p < wq.heap.size → w.cell? ⟨p, o, none⟩ = wq.cell? ⟨p, o, none⟩ := (fun p o h => hSw.cell (p := ⟨p, o, none⟩) h); clear hSw; go_simp; try with_reducible rfl)
                  refine wpAnyH_take (i := 14) (v := ?_) rfl (by kernel_rfl) (by kernel_rfl) (by kernel_rfl) (fun _ _ _ h => h) (Or.inl ⟨by rfl, ?hy⟩) (by assumption) ?_
                  case hy => (intro w hSw; have hcw : ∀ p o, p < wq.heap.size → w.cell? ⟨p, o, none⟩ = wq.cell? ⟨p, o, none⟩ := (fun p o h => hSw.cell (p := ⟨p, o, none⟩) h); clear hSw; go_simp; try with_reducible rfl)
                  refine wpAnyH_take (i := 15) (v := ?_) rfl (by kernel_rfl) (by kernel_rfl) (by kernel_rfl) (fun _ _ _ h => h) (Or.inl ⟨by rfl, ?hy⟩) (by assumption) ?_
                  case hy => (intro w hSw; have hcw : ∀ p o, p < wq.heap.size → w.cell? ⟨p, o, none⟩ = wq.cell? ⟨p, o, none⟩ := (fun p o h => hSw.cell (p := ⟨p, o, none⟩) h); clear hSw; go_simp; try with_reducible rfl)
                  refine wpAnyH_take (i := 16) (v := ?_) rfl (by kernel_rfl) (by kernel_rfl) (by kernel_rfl) (fun _ _ _ h => h) (Or.inl ⟨by rfl, ?hy⟩) (by assumption) ?_
                  case hy => (intro w hSw; have hcw : ∀ p o, p < wq.heap.size → w.cell? ⟨p, o, none⟩ = wq.cell? ⟨p, o, none⟩ := (fun p o h => hSw.cell (p := ⟨p, o, none⟩) h); clear hSw; go_simp; try with_reducible rfl)
                  refine wpAnyH_done (by kernel_rfl) ?_ _
                  have hbe := hbq.trans (hbd.mono hbq.size)
                  clear hbd hbq HIH kCq rPS
                  go_wp2_with fail
                  go_roundw
                  case rel => exact ⟨k + 1, sx, R5, c5, by omega, by go_num, rfl, rfl, HST2, hR5, hbe⟩
                  case measure => simp [RowKit.intOf]; omega
              case q11 =>
                go_simp
                have D2 := GrpB.start hb (k : Int)
                refine hK.out _ _ D2.hb (fun _ => ?_)
                clear hK K
                obtain ⟨b0, hge⟩ : ∃ b, b = V0.heap.size := ⟨_, rfl⟩
                rw [← hge] at D2 ⊢
                clear hge
                clear hb
                revert D2
                generalize V0.alloc (.cells #[.int .i64 (k : Int)] 3) = V10
                intro D2
                have D := D2
                clear D2
                refine wpAnyH_ready (rs := [3]) (by kernel_rfl) (by simp) (AllReadyH.cons rfl (fun K hK => ?_) AllReadyH.nil)
                go_simp
                have R2 := D.start'
                refine hK.out _ _ R2.hb (fun _ => ?_)
                clear hK K
                obtain ⟨g0, hge⟩ : ∃ b, b = V10.heap.size := ⟨_, rfl⟩
                rw [← hge] at R2 ⊢
                clear hge
                clear D
                revert R2
                generalize V10.alloc (.cells #[] 3) = V11
                intro R2
                have D := R2
                clear R2
                refine wpAnyH_ready (rs := [5]) (by kernel_rfl) (by simp) (AllReadyH.cons rfl (fun K hK => ?_) AllReadyH.nil)
                refine sapp_intsD rfl (.tmp 71) (.tmp 72) rfl wq.heap.size g0 0 0 [] rfl D.toGrpS.own PB b.length cpb b rfl (HPB.out.later D.toGrpS.hb).rowI (by omega) D.toGrpS.hb.size ?_
                intro g12 cap12 V12 hown12 hgr12 hat12
                rw [Nat.zero_add, List.nil_append] at hown12
                rw [Nat.zero_add]
                have R2 := D.app hown12 hgr12 hat12
                refine hK.out _ _ R2.hb (fun _ => ?_)
                clear hK K D hown12 hgr12 hat12
                have D := R2
                clear R2
                refine wpAnyH_ready (rs := [8]) (by kernel_rfl) (by simp) (AllReadyH.cons rfl (fun K hK => ?_) AllReadyH.nil)
                refine sapp_intsD rfl (.tmp 73) (.tmp 75) rfl wq.heap.size g12 b.length cap12 b rfl D.own (some ⟨b0, 0, none⟩) 1 1 [(k : Int)] rfl D.one.rowI (by omega) D.hb.size ?_
                intro g13 cap13 V13 hown13 hgr13 hat13
                have R := D.toGrpS.app hown13 hgr13 hat13
                refine hK.out _ _ R.hb (fun _ => ?_)
                clear hK K D hown13 hgr13 hat13
                refine wpAnyH_ready (rs := [11]) (by kernel_rfl) (by simp) (AllReadyH.cons rfl (fun K hK => ?_) AllReadyH.nil)
                go_simp
                refine (HIH.out V13 g13 cap13 R.hb (own_rowH R.own)).mono ?_
                rintro e w5 ⟨R5, c5, rfl, hR5, hb5⟩
                have hbd := R.hb.trans (hb5.mono R.hb.size)
                refine hK.out _ _ hbd (fun _ => ?_)
                clear hK K R hb5
                refine wpAnyH_take (i := 12) (v := ?_) rfl (by kernel_rfl) (by kernel_rfl) (by kernel_rfl) (fun _ _ _ h => h) (Or.inl ⟨by rfl, ?hy⟩) (by assumption) ?_
                case hy => (intro w hSw; have hcw : ∀ p o, p < wq.heap.size → w.cell? ⟨p, o, none⟩ = wq.cell? ⟨p, o, none⟩ := (fun p o h => hSw.cell (p := ⟨p, o, none⟩) h); clear hSw; go_simp; try with_reducible rfl)
                refine wpAnyH_take (i := 13) (v := ?_) rfl (by kernel_rfl) (by kernel_rfl) (by kernel_rfl) (fun _ _ _ h => h) (Or.inl ⟨by rfl, ?hy⟩) (by assumption) ?_
                case hy => (intro w hSw; have hcw : ∀ p o, p < wq.heap.size → w.cell? ⟨p, o, none⟩ = wq.cell? ⟨p, o, none⟩ := (fun p o h => hSw.cell (p := ⟨p, o, none⟩) h); clear hSw; go_simp; try with_reducible rfl)
                refine wpAnyH_take (i := 14) (v := ?_) rfl (by kernel_rfl) (by kernel_rfl) (by kernel_rfl) (fun _ _ _ h => h) (Or.inl ⟨by rfl, ?hy⟩) (by assumption) ?_
                case hy => (intro w hSw; have hcw : ∀ p o, p < wq.heap.size → w.cell? ⟨p, o, none⟩ = wq.cell? ⟨p, o, none⟩ := (fun p o h => hSw.cell (p := ⟨p, o, none⟩) h); clear hSw; go_simp; try with_reducible rfl)
                refine wpAnyH_take (i := 15) (v := ?_) rfl (by kernel_rfl) (by kernel_rfl) (by kernel_rfl) (fun _ _ _ h => h) (Or.inl ⟨by rfl, ?hy⟩) (by assumption) ?_
                case hy => (intro w hSw; have hcw : ∀ p o, p < wq.heap.size → w.cell? ⟨p, o, none⟩ = wq.cell? ⟨p, o, none⟩ := (fun p o h => hSw.cell (p := ⟨p, o, none⟩) h); clear hSw; go_simp; try with_reducible rfl)
                refine wpAnyH_take (i := 16) (v := ?_) rfl (by kernel_rfl) (by kernel_rfl) (by kernel_rfl) (fun _ _ _ h => h) (Or.inl ⟨by rfl, ?hy⟩) (by assumption) ?_
                case hy => (intro w hSw; have hcw : ∀ p o, p < wq.heap.size → w.cell? ⟨p, o, none⟩ = wq.cell? ⟨p, o, none⟩ := (fun p o h => hSw.cell (p := ⟨p, o, none⟩) h); clear hSw; go_simp; try with_reducible rfl)
                refine wpAnyH_done (by kernel_rfl) ?_ _
                have hbe := hbq.trans (hbd.mono hbq.size)
                clear hbd hbq HIH kCq rPS
                go_wp2_with fail
                go_roundw
                case rel => exact ⟨k + 1, sx, R5, c5, by omega, by go_num, rfl, rfl, HST2, hR5, hbe⟩
                case measure => simp [RowKit.intOf]; omega
      · obtain rfl : k = h.length := by omega
        have hd : decide ((h.length : Int) < (h.length : Int)) = false := decide_eq_false (by omega)
        have hbz : Below w.heap.size w wq := by rw [HNe.out]; exact hb0.trans (hb.mono (by have := hb0.size; rw [HNe.out] at this; exact this))
        go_wp2_with fail
        go_ret2
        rw [HFIN.out, ← HST.out]
        exact ⟨PS2, cps2, rfl, rPS, hbz⟩
end Go.Proofs.Ytpklcjbdmikbdaa
namespace Go.Proofs.Ytpklcjbdmikbdaa.fitGrinds
open Go.RowKit

set_option maxRecDepth 100000 in
set_option maxHeartbeats 16000000 in
theorem walk (A B : Option Addr) (n c m d : Nat) (lo hi : Int) (s t : List Int) (w : World) (hsA : RowI w A n s) (hcA : n ≤ c) (hnA : A = none → c = 0) (hsB : RowI w B m t) (hcB : m ≤ d) (hnB : B = none → d = 0) :
    Calls Try.prog 13 #[.agg #[.slice A n c, .slice B m d, .int .i64 lo, .int .i64 hi]] w fun e w' => e = .returned (.bool true) ∧ Below w.heap.size w w' := by
  have hb0 : Below w.heap.size w (w.alloc (.cells #[.slice A n c, .slice B m d, .int .i64 lo, .int .i64 hi] 37)) := (Below.refl _ _).alloc (Nat.le_refl _) _
  have kY := Blk.new w 37 #[.slice A n c, .slice B m d, .int .i64 lo, .int .i64 hi]
  have hSA : SrcI w A n c s := ⟨hsA, hcA, hnA⟩
  have hSB : SrcI w B m d t := ⟨hsB, hcB, hnB⟩
  have HF := Lib.hid (few_any A B n c m d 5 s t lo hi _ (hSA.later hb0) (hSB.later hb0) (by omega))
  have cY := kY.cell
  have lY := kY.lt
  clear hsA hcA hnA hsB hcB hnB hSA hSB
  go_enter Try.func13, Try.ntmps13
  go_wp2_with fail
  refine HF.out.mono ?_
  rintro e w1 ⟨v1, v2, rfl, hown1, hown2, hb1⟩
  obtain ⟨A1, c1, rfl⟩ := own_slice hown1
  obtain ⟨B1, d1, rfl⟩ := own_slice hown2
  have hb2 := hb0.trans (hb1.mono hb0.size)
  have hS65 := fewL_len s 5
  have hT65 := fewL_len t 5
  generalize fewL s 5 = S at *
  generalize fewL t 5 = T at *
  have rS1 := own_rowH hown1
  have rT1 := own_rowH hown2
  have kX := Blk.new w1 37 #[.slice A1 S.length c1, .slice B1 T.length d1, .int .i64 lo, .int .i64 hi]
  have hb3 : Below w1.heap.size w1 (w1.alloc (.cells #[.slice A1 S.length c1, .slice B1 T.length d1, .int .i64 lo, .int .i64 hi] 37)) := (Below.refl _ _).alloc (Nat.le_refl _) _
  have rS := rS1.later hb3
  have rT := rT1.later hb3
  have hb := hb2.trans (hb3.mono hb2.size)
  clear HF cY lY hb0 kY hown1 hown2 hb1 hb2 hb3 rS1 rT1
  go_upto_region 2 with fail
  revert kX rS rT hb
  generalize w1.alloc (.cells #[.slice A1 S.length c1, .slice B1 T.length d1, .int .i64 lo, .int .i64 hi] 37) = w2
  generalize w1.heap.size = X
  intro kX rS rT hb
  have hbl := hb
  have hbf := Below.refl w2.heap.size w2
  have HV := Lib.hid fun w' h => valid_shop A1 B1 S.length c1 T.length d1 S T lo hi w' (rS.later (w' := w') h).rowI (rT.later h).rowI (by omega) (by omega)
  clear hb
  cases hpb : piecesB S T lo hi with
  | false =>
    have HP := Lib.hid (grind_no A1 B1 c1 d1 S T lo hi w2 rS rT (by omega) (by omega) hpb)
    rw [hpb] at HV
    clear hpb rS rT
    have ckX := kX.cell
    have lkX := kX.lt
    go_wp2_with fail
    refine (HP.out).mono ?_
    rintro e wc1 ⟨rfl, hbc⟩
    replace kX := kX.later hbc
    replace hbf := hbf.trans (hbc.mono hbf.size)
    replace hbl := hbl.trans (hbc.mono hbl.size)
    clear hbc
    clear ckX lkX
    have ckX := kX.cell
    have lkX := kX.lt
    go_wp2_with fail
    refine (HV.out _ hbf).mono ?_
    rintro e wc2 ⟨rfl, hbc⟩
    replace hbl := hbl.trans (hbc.mono hbl.size)
    clear hbc
    clear ckX lkX
    go_wp2_with fail
    refine (lives_any _).mono ?_
    rintro e wc3 ⟨rfl, hbc⟩
    replace hbl := hbl.trans (hbc.mono hbl.size)
    clear hbc
    go_wp2_with fail
    go_ret
    exact ⟨rfl, hbl⟩
  | true =>
    rw [hpb] at HV
    obtain ⟨hs, hh, l1, l2, hsp⟩ := piecesB_iff.1 hpb
    obtain ⟨sp1, sp2', sp3⟩ := spanB_iff.1 hsp
    have sp2 : lo ≤ 1000000 := by omega
    have HP := Lib.hid (grind_yes A1 B1 c1 d1 S T lo hi w2 rS rT hpb)
    obtain ⟨st, hst⟩ : ∃ st, st = gsub (grv (fitU S T hi) (gcost S T lo) T.length S.length) T.length S.length [] ([], -1) := ⟨_, rfl⟩
    have HST := Lib.hid hst
    have HG := Lib.hid fun w' (h : Below w2.heap.size w2 w') g1 g2 => rGrind_any (ca := c1) (cb := d1) (lo := lo) (hi := hi) hs hh sp1 sp2 l1 l2 _ rfl S.length [] [] (-1) (some ⟨g1, 0, none⟩) (some ⟨g2, 0, none⟩) 0 0 w' (Nat.zero_add _) (rS.later h) (rT.later h) ⟨rfl, fun h => absurd h (Nat.lt_irrefl _)⟩ ⟨rfl, fun h => absurd h (Nat.lt_irrefl _)⟩
    rw [← hst] at HG
    have HBE : Hid (BestG (grv (fitU S T hi) (gcost S T lo) T.length S.length) (ext T.length S.length []) st) := by
      have := best_ext (grv (fitU S T hi) (gcost S T lo) T.length S.length) T.length S.length
      rw [hst]
      exact this
    clear hpb hs hh hsp hst rS rT
    have ckX := kX.cell
    have lkX := kX.lt
    go_wp2_with fail
    refine HP.out.mono ?_
    rintro e w3 hres
    rcases hres with ⟨rfl, hno, hbc⟩ | ⟨v, tt, tot, left, BB, rfl, hown, hlow, hgt, hbc⟩
    · have HNEG := Lib.hid (best_no (gcost_pos S T lo) hno HBE.out)
      clear hno HP HBE HST
      replace kX := kX.later hbc
      replace hbf := hbf.trans (hbc.mono hbf.size)
      replace hbl := hbl.trans (hbc.mono hbl.size)
      clear hbc
      clear ckX lkX
      have ckX := kX.cell
      have lkX := kX.lt
      go_wp2_with fail
      refine (HV.out _ hbf).mono ?_
      rintro e wc4 ⟨rfl, hbc⟩
      replace kX := kX.later hbc
      replace hbf := hbf.trans (hbc.mono hbf.size)
      replace hbl := hbl.trans (hbc.mono hbl.size)
      clear hbc
      clear ckX lkX
      obtain ⟨wq, hwq⟩ : ∃ x, x = wc4 := ⟨_, rfl⟩
      subst hwq
      have hba : Below wq.heap.size wq ((wq.alloc (.cells #[] 3)).alloc (.cells #[] 3)) := ((Below.refl _ _).alloc (Nat.le_refl _) _).alloc (by simp) _
      have HG2 := Lib.hid (HG.out _ (hbf.trans (hba.mono hbf.size)))
      clear HG
      have ckX := kX.cell
      have lkX := kX.lt
      go_wp2_with fail
      refine (HG2.out _ _).mono ?_
      rintro e w6 ⟨R6, c6, rfl, rR6, hbc6⟩
      have hbc := hba.trans (hbc6.mono hba.size)
      clear HG2 hba hbc6
      replace kX := kX.later hbc
      replace hbf := hbf.trans (hbc.mono hbf.size)
      replace hbl := hbl.trans (hbc.mono hbl.size)
      clear hbc
      clear ckX lkX
      have hneg := HNEG.out
      obtain ⟨sb, sl⟩ := st
      have hd : decide (sl < 0) = true := decide_eq_true hneg
      clear HNEG rR6
      have ckX := kX.cell
      have lkX := kX.lt
      go_wp2_with fail
      refine (lives_any _).mono ?_
      rintro e wc5 ⟨rfl, hbc⟩
      replace hbl := hbl.trans (hbc.mono hbl.size)
      clear hbc
      clear ckX lkX
      go_wp2_with fail
      go_ret
      exact ⟨rfl, hbl⟩
    · obtain ⟨A9, c9, rfl⟩ := own_slice hown
      have rT9 := own_rowH hown
      have hgl := hgt.len
      have hfin := hgt.fin hlow
      have htot : 0 ≤ tot := by rw [← hfin]; exact wt_nonneg (gcost_pos S T lo)
      obtain rfl := best_yes (gcost_pos S T lo) hlow hgt HBE.out
      have HGL := Lib.hid hgl
      clear HP hown hlow hgt HBE HST hgl hfin
      replace kX := kX.later hbc
      replace hbf := hbf.trans (hbc.mono hbf.size)
      replace hbl := hbl.trans (hbc.mono hbl.size)
      clear hbc
      clear ckX lkX
      have ckX := kX.cell
      have lkX := kX.lt
      go_wp2_with fail
      refine (HV.out _ hbf).mono ?_
      rintro e wc6 ⟨rfl, hbc⟩
      replace kX := kX.later hbc
      replace rT9 := rT9.later hbc
      replace hbf := hbf.trans (hbc.mono hbf.size)
      replace hbl := hbl.trans (hbc.mono hbl.size)
      clear hbc
      clear ckX lkX
      obtain ⟨wq, hwq⟩ : ∃ x, x = wc6 := ⟨_, rfl⟩
      subst hwq
      have hba : Below wq.heap.size wq ((wq.alloc (.cells #[] 3)).alloc (.cells #[] 3)) := ((Below.refl _ _).alloc (Nat.le_refl _) _).alloc (by simp) _
      have HG2 := Lib.hid (HG.out _ (hbf.trans (hba.mono hbf.size)))
      clear HG
      have ckX := kX.cell
      have lkX := kX.lt
      go_wp2_with fail
      refine (HG2.out _ _).mono ?_
      rintro e w6 ⟨R6, c6, rfl, rR6, hbc6⟩
      have hbc := hba.trans (hbc6.mono hba.size)
      clear HG2 hba hbc6
      replace rT9 := rT9.later hbc
      replace kX := kX.later hbc
      replace hbf := hbf.trans (hbc.mono hbf.size)
      replace hbl := hbl.trans (hbc.mono hbl.size)
      clear hbc
      clear ckX lkX
      have hd : decide (tot < 0) = false := decide_eq_false (by omega)
      have hee : (tot == tot) = true := by simp
      have rR7 : RowH w6 R6 S.length tt := by
        have := rR6
        simp only [HGL.out] at this
        exact this
      have HSM := Lib.hid (same_any A9 R6 S.length S.length c9 c6 tt tt w6 rT9 rR7 (by omega) (by omega))
      rw [decide_eq_true rfl] at HSM
      clear rR6 rR7 rT9
      simp only [HGL.out]
      have ckX := kX.cell
      have lkX := kX.lt
      go_wp2_with fail
      refine (HSM.out).mono ?_
      rintro e wc7 ⟨rfl, hbc⟩
      replace hbl := hbl.trans (hbc.mono hbl.size)
      clear hbc
      clear ckX lkX
      go_wp2_with fail
      refine (lives_any _).mono ?_
      rintro e wc8 ⟨rfl, hbc⟩
      replace hbl := hbl.trans (hbc.mono hbl.size)
      clear hbc
      go_wp2_with fail
      go_ret
      exact ⟨rfl, hbl⟩
end Go.Proofs.Ytpklcjbdmikbdaa.fitGrinds
namespace Go.Proofs.Ytpklcjbdmikbdaa.fitGrinds
open Go.ChangeShapes Go.WideShapes Go.ChangeAt Go.RowKit


set_option maxHeartbeats 2000000 in
set_option maxHeartbeats 4000000 in
set_option maxRecDepth 100000 in
theorem lifted (os : Os) (started : os.Started) (H : Type) (enc : TypeId × Value → H) :
    ReturnsInHanded {} Try.checked os 13 .any (Rows.fitGrindsSpec.pre6 enc Try.prog Try.f13 Rows.fitGrindsRow.domain false) (Rows.fitGrindsSpec.post enc Try.prog Try.f13 false true false false) := by
  refine returnsInHanded_of_change (C := Try.checked) Try.own started (by kernel_rfl) Try.func13
    (ChangeSpec.witness6 (enc := enc) (C := Try.checked) false ⟨#[], #[.agg #[.slice none 0 0, .slice none 0 0, .int .i64 0, .int .i64 0]], []⟩ 8 (by kernel_rfl) (by kernel_rfl) (by kernel_rfl) (by kernel_rfl)) ?_
  intro W base args ds gs before hval0 hW hcnd _
  have hval : ∀ (j : Nat) t v, Try.f13.params[j]? = some t → args[j]? = some v → Value.okWide Try.prog W .any base t v := hval0
  have hW' := hW
  obtain ⟨p, q, hA0, hV, rfl, hfz, hnd⟩ := hW
  have hA : DataW.TrodAll enc Try.prog W 0 (fun _ => true) true Try.f13.params.toList args.toList ds p := hA0
  rw [Try.params13] at hA hval
  obtain ⟨v0, vs0, d0, ds0, p0, q0, hargs, rfl, rfl, h0, r0⟩ := trodAll_cons hA
  obtain ⟨rfl, rfl, rfl⟩ := trodAll_nil r0
  obtain rfl : args = #[v0] := by cases args; simp_all
  obtain ⟨rfl, rfl⟩ := trodVars_none hV
  obtain ⟨A0, B0, n0, c0, m0, e0, s0, t0, lo0, hi0, rfl, x0, y0, u0, x0b, y0b, u0b⟩ := open_Q (hval 0 37 v0 rfl rfl) h0
  refine (walk A0 B0 n0 c0 m0 e0 lo0 hi0 s0 t0 W x0 y0 u0 x0b y0b u0b).mono fun e W' ⟨he, hb⟩ => ?_
  exact ⟨_, he, law_post rfl (by kernel_rfl) (by kernel_rfl) hW' rfl rfl rfl hb⟩

set_option maxHeartbeats 4000000 in
set_option maxRecDepth 100000 in
theorem facts : joinedFacts Try.prog 13 Try.f13 Rows.fitGrindsSpec Rows.fitGrindsRow = true := by
  unfold joinedFacts
  repeat' (with_reducible refine and_t ?_ ?_)
  all_goals first
    | with_reducible exact Try.enters
    | (rw [Try.finals]; as_aux_lemma => kernel_rfl)
    | (rw [Try.made]; as_aux_lemma => kernel_rfl)
    | (as_aux_lemma => kernel_rfl)

theorem proved : Rows.FitGrindsSaid :=
  OpenClaim.holds_of_wide 13 Try.f13 rfl rfl rfl rfl rfl rfl rfl ⟨rfl, rfl, rfl, rfl, rfl⟩ rfl rfl rfl rfl rfl (by as_aux_lemma => kernel_rfl) Try.func13 facts
    (of_decide_eq_true (by as_aux_lemma => kernel_rfl)) (by unfold Func.isWrapper; rw [if_neg (of_decide_eq_false (by kernel_rfl))]; exact ⟨rfl, rfl⟩)
    (fun os started H enc _ => lifted os started H enc)
#print axioms proved
end Go.Proofs.Ytpklcjbdmikbdaa.fitGrinds
