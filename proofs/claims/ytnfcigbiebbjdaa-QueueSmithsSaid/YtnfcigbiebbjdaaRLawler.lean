/-
  Lawler's order as the document makes it: the walk.
  Conditions: the jobs are valid; the slices start at the heads of blocks.
-/
import Derived.Test.YtnfcigbiebbjdaaLawler
import Derived.Test.YtnfcigbiebbjdaaRSmith2
namespace Go.Proofs.Ytnfcigbiebbjdaa
open Go.RowKit

theorem rest_next (k : Nat) (R : List Int) : rest (k + 1) R = if (k : Int) ∈ R then rest k R else rest k R ++ [(k : Int)] := by
  unfold rest
  rw [nums_succ, List.filter_append]
  by_cases h : (k : Int) ∈ R <;> simp [h]
theorem rest_len (k : Nat) (R : List Int) : (rest k R).length ≤ k := by
  unfold rest
  have := List.length_filter_le (fun i => decide (i ∉ R)) (nums k)
  rwa [nums_length] at this
theorem own_lit (w : World) {base : Nat} (b : Int) (hb : base ≤ w.heap.size) : (w.alloc (.cells #[.int .i64 b] 3)).ownsRow base 3 1 (.slice (some ⟨w.heap.size, 0, none⟩) 1 1) 1 (([b] : List Int).map (Value.int .i64)) :=
  ⟨by simp, .inr ⟨w.heap.size, 1, #[.int .i64 b], rfl, hb, heap_alloc_new w _, Nat.le_refl _, by unfold maxLen; omega, rfl, rfl⟩⟩
/-- The places given away so far. -/
def InsL (base : Nat) (v : Value) (R : List Int) (wr : World) : Prop :=
  ∃ (g cap : Nat), v = .slice (some ⟨g, 0, none⟩) R.length cap ∧ wr.ownsRow base 3 1 v R.length (R.map (Value.int .i64))
theorem InsL.later {base : Nat} {v : Value} {R : List Int} {w w' : World} (h : InsL base v R w) (hb : Below w.heap.size w w') : InsL base v R w' := by
  obtain ⟨g, cap, e, h1⟩ := h
  exact ⟨g, cap, e, own_later h1 hb⟩
theorem InsL.far {base : Nat} {v : Value} {R : List Int} {w : World} (h : InsL base v R w) {P n : Nat} {f : Int → Bool} (hP : RowBo w P n f) {p : Addr} (hp : p.block = P) (u : Value) : InsL base v R (w.setCell p u) := by
  obtain ⟨g, cap, e, h1⟩ := h
  refine ⟨g, cap, e, ?_⟩
  have hne : g ≠ P := by
    rintro rfl
    rcases h1.2 with ⟨h2, _⟩ | ⟨g', cap', cur, h2, _, h3, _⟩
    · rw [e] at h2; cases h2
    · rw [e] at h2
      injection h2 with e1 e2 e3
      cases e1
      unfold RowBo Blk at hP
      rw [hP] at h3
      injection h3 with h3
      injection h3 with _ ht
      exact absurd ht (by decide)
  refine h1.kept (only_setCell (World.grownBy.refl w (some P)) (.inl hp) u) (.inr ?_)
  subst e
  simpa [Value.ownBlock] using fun h => hne h
def lenV : Value → Nat
  | .slice _ n _ => n
  | _ => 0
/-- The document's Lawler gives the one order. -/
def RLawR (w : World) (l : List Jb) (n : Nat) (e : Ending) (w' : World) : Prop :=
  ∃ (v : Value) (o : List Int), e = .returned v ∧ GoodL l n o ∧ o.length = n ∧ InsL w.heap.size v o w' ∧ Below w.heap.size w w'

set_option maxRecDepth 100000 in
set_option maxHeartbeats 8000000 in
theorem rLawler_yes (A : Option Addr) (n c : Nat) (l : List Jb) (w : World) (rA : JobsH w A n l) (hv : validB l = true) : Calls Try.prog 29 #[.slice A n c] w (RLawR w l n) := by
  have hn : n ≤ 64 := by
    have h := hv
    unfold validB at h
    simp only [Bool.and_eq_true, decide_eq_true_eq] at h
    rw [← rA.1]; exact h.1
  have HC : Hid (∀ (k : Nat) (x : Jb), l[k]? = some x → Calm x) := fun k x h => validB_calm hv h
  have HV := Lib.hid hv
  have hmb := make_bools n (by omega)
  clear hv
  have hb0 : Below w.heap.size w (w.alloc (.cells #[] 3)) := (Below.refl _ _).alloc (Nat.le_refl _) _
  have hb1 : Below w.heap.size w ((w.alloc (.cells #[] 3)).alloc (.cells (boolz n) 4)) := hb0.alloc hb0.size _
  have hmade : (w.alloc (.cells #[] 3)).ownsRow w.heap.size 3 1 (.slice (some ⟨w.heap.size, 0, none⟩) 0 0) 0 (([] : List Int).map (Value.int .i64)) := World.ownsRow_made (base := w.heap.size) (e := 3) (size := 1) w #[] 0 (by simp) (by unfold maxLen; omega) (by simp)
  have hP0 := RowBo.new (w.alloc (.cells #[] 3)) n
  have hst : InsL w.heap.size (.slice (some ⟨w.heap.size, 0, none⟩) 0 0) [] ((w.alloc (.cells #[] 3)).alloc (.cells (boolz n) 4)) := ⟨_, _, rfl, own_later hmade ((Below.refl _ _).alloc (Nat.le_refl _) _)⟩
  rw [World.size_alloc] at hP0
  obtain ⟨P, hPe⟩ : ∃ P, P = w.heap.size + 1 := ⟨_, rfl⟩
  rw [← hPe] at hP0
  have HPe := Lib.hid hPe
  have HSt := Lib.hid hst
  have HP0 : Hid (RowBo ((w.alloc (.cells #[] 3)).alloc (.cells (boolz n) 4)) P n (fun _ => false)) := hP0
  have HB1 := Lib.hid hb1
  have hPw : w.heap.size ≤ P := by omega
  clear hb0 hb1 hmade hst hP0 hPe
  go_enter Try.func29, Try.ntmps29
  go_wp2_with fail
  rw [← HPe.out]
  go_loopw [3] (fun v wr => ∃ R : List Int, R.length ≤ n ∧ GoodL l n R ∧ InsL w.heap.size v R wr ∧ RowBo wr P n (fun z => decide (z ∈ R)) ∧ Below w.heap.size w wr) (fun v _ => n - lenV v)
  case atStart => exact ⟨[], by simp, .nil, HSt.out, HP0.out.congr (fun z _ _ => by simp), HB1.out⟩
  case round =>
    clear HSt HP0 HB1
    obtain ⟨R, hR, hG, ⟨G, cap, rfl, hown⟩, hP, hb⟩ := hrel
    obtain ⟨W1, hW1⟩ : ∃ W1, W1 = wr := ⟨_, rfl⟩
    subst hW1
    have HG := Lib.hid hG
    have hsb := upTo_bound HV.out hG hn
    obtain ⟨s, hs⟩ : ∃ s, s = upTo l n R := ⟨_, rfl⟩
    rw [← hs] at hsb
    have HS := Lib.hid hs
    obtain ⟨s0, s1⟩ := hsb
    clear hs
    by_cases hr : R.length < n
    · have hbt : decide ((R.length : Int) < (n : Int)) = true := by simp; omega
      have hbt2 : (R.length : Int) < (n : Int) := by omega
      obtain ⟨M, hM⟩ : ∃ M, M = W1.heap.size := ⟨_, rfl⟩
      have hMw : w.heap.size ≤ M := by rw [hM]; exact hb.size
      have hx1 := (Below.refl W1.heap.size W1).alloc (Nat.le_refl _) (.cells (boolz n) 4)
      have hM0 := RowBo.new W1 n
      rw [← hM] at hM0
      have hM1 : Hid (RowBo (W1.alloc (.cells (boolz n) 4)) M n (fun z => decide (0 < named l (rest 0 R) z))) := hM0.congr fun z _ _ => by simp [rest, nums, named]
      have HMe := Lib.hid hM
      have HR := Lib.hid hr
      clear hM hM0 hr hR
      go_wp2_with fail
      rw [← HMe.out]
      go_loopw [5, 7] (fun t i wi => ∃ (k : Nat) (u : Int), k ≤ n ∧ i = .int .i64 k ∧ t = .int .i64 u ∧ Hid (u = works l (rest k R)) ∧ 0 ≤ u ∧ u ≤ 10000 * k ∧ RowBo wi M n (fun z => decide (0 < named l (rest k R) z)) ∧ Below W1.heap.size W1 wi) (fun _ i _ => n - (intOf i).toNat)
      case atStart => exact ⟨0, 0, Nat.zero_le _, rfl, rfl, by show _ = _; simp [rest, nums, works], Int.le_refl _, by omega, hM1.out, hx1⟩
      case round =>
        clear hM1 hx1
        obtain ⟨k, u, hk, rfl, rfl, hu, u0, u1, hMr, hb2⟩ := hrel
        have hbw := hb.trans (hb2.mono hb.size)
        by_cases hkn : k < n
        · have ubt : decide ((k : Int) < (n : Int)) = true := by simp; omega
          have ubt2 : (k : Int) < (n : Int) := by omega
          have hP2 := hP.later hb2
          have cP := hP2.at_ hkn
          have HRn := Lib.hid (rest_next k R)
          by_cases hin : (k : Int) ∈ R
          · rw [decide_eq_true hin] at cP
            have HRn2 : Hid (rest (k + 1) R = rest k R) := by show _ = _; rw [HRn.out, if_pos hin]
            clear HRn hP2 hin
            go_wp2_with fail
            go_roundw
            case rel => exact ⟨k + 1, u, by omega, by go_num, rfl, by show _ = _; rw [HRn2.out]; exact hu.out, by omega, by omega, by rw [HRn2.out]; exact hMr, hb2⟩
            case measure => simp [intOf]; omega
          · rw [decide_eq_false hin] at cP
            have HRn2 : Hid (rest (k + 1) R = rest k R ++ [(k : Int)]) := by show _ = _; rw [HRn.out, if_neg hin]
            clear HRn hP2 hin
            obtain ⟨g, B, m, cB, e1, hg, hj, c0, c1, c2, c3, c4, hrow⟩ := rA.both hbw hkn
            subst e1
            have HRow := Lib.hid hrow
            have hmj : (jat l k).after.length = m := hrow.1
            have hq := HC.out k _ hj
            obtain ⟨p0, p1, _⟩ := hq
            have HWk : Hid (works l (rest (k + 1) R) = works l (rest k R) + (jat l k).work) := by
              show _ = _
              rw [HRn2.out, works_append]; simp [works]
            have HNk : Hid (∀ a, named l (rest (k + 1) R) a = named l (rest k R) a + (jat l k).after.count a) := fun a => by
              rw [HRn2.out, named_append]; simp [named]
            have hup := validB_up HV.out (k : Int)
            have HU := Lib.hid hup
            have hlen := validB_len HV.out (k : Int)
            have hm64 : m ≤ 64 := by omega
            clear hj hup hrow HRn2 hlen
            generalize jat l k = j at *
            have hM2 := hMr.congr (g := fun z => decide (0 < named l (rest k R) z + (j.after.take 0).count z)) (fun z _ _ => by rw [decide_eq_decide, List.take_zero, List.count_nil, Nat.add_zero])
            have C4 : Hid (∀ w' : World, Below W1.heap.size W1 w' → w'.cell? ⟨g, k * 5 + 4, none⟩ = some (.slice B m cB)) := by
              have hg1 : g < W1.heap.size := by
                obtain ⟨g', _, e', hg', _⟩ := (rA.later hb).at_ hkn
                cases e'; exact hg'
              intro w' hb'
              have := (hb2.cell (p := ⟨g, k * 5 + 4, none⟩) hg1).symm.trans c4
              exact (hb'.cell (p := ⟨g, k * 5 + 4, none⟩) hg1).trans this
            have Hg : Hid (g < W1.heap.size) := by
              obtain ⟨g', _, e', hg', _⟩ := (rA.later hb).at_ hkn
              cases e'; exact hg'
            clear hMr
            go_wp2_with fail
            clear c0 c1 c2 c3 c4
            go_loopw [8] (fun i wi => ∃ q : Nat, q ≤ m ∧ i = .int .i64 q ∧ RowBo wi M n (fun z => decide (0 < named l (rest k R) z + (j.after.take q).count z)) ∧ Below W1.heap.size W1 wi) (fun i _ => m - (intOf i).toNat)
            case atStart => exact ⟨0, Nat.zero_le _, rfl, hM2, hb2⟩
            case round =>
              clear hM2 hb2 hbw cP hg
              obtain ⟨q, hq, rfl, hMr, hb2⟩ := hrel
              have c4 := C4.out _ hb2
              have hbw := hb.trans (hb2.mono hb.size)
              have hg : g < wr.heap.size := Nat.lt_of_lt_of_le Hg.out hb2.size
              by_cases hqm : q < m
              · have vbt : decide ((q : Int) < (m : Int)) = true := by simp; omega
                have vbt2 : (q : Int) < (m : Int) := by omega
                obtain ⟨g2, e1, hg2, hc⟩ := (HRow.out.later hbw).at_ hqm
                cases e1
                have hxq : j.after[q]? = some (j.after.getD q 0) := getD_get (by rw [hmj]; exact hqm)
                have hx := HU.out _ (List.mem_of_getElem? hxq)
                have hct := Lib.hid (fun a => count_take (a := a) hxq)
                clear hxq
                generalize j.after.getD q 0 = x at *
                obtain ⟨x0, x1⟩ := hx
                obtain ⟨i, rfl⟩ := Int.eq_ofNat_of_zero_le x0
                have hi : i < n := by omega
                have hin : (i : Int) < (n : Int) := by omega
                have cM := hMr.at_ hi
                have fM := hMr.frozen i
                have lM := hMr.lt
                have hset := (hMr.set_ i true).congr (g := fun z => decide (0 < named l (rest k R) z + (j.after.take (q + 1)).count z)) (fun z _ _ => by
                  rw [hct.out z]
                  by_cases e : z = (i : Int)
                  · subst e; simp; omega
                  · simp [e])
                have HSet := Lib.hid hset
                have hbs := Lib.hid (hb2.setCell (p := ⟨M, i, none⟩) (show W1.heap.size ≤ M by rw [HMe.out]; exact Nat.le_refl _) (.bool true))
                clear hset hMr hb2 hbw hct x0 x1
                generalize decide (0 < named l (rest k R) (i : Int) + (j.after.take q).count (i : Int)) = v1 at *
                go_wp2_with fail
                go_roundw
                case rel => exact ⟨q + 1, by omega, by go_num, HSet.out, hbs.out⟩
                case measure => simp [intOf]; omega
              · obtain rfl : q = m := by omega
                have vbt : decide ((q : Int) < (q : Int)) = false := by simp
                have hM3 := hMr.congr (g := fun z => decide (0 < named l (rest (k + 1) R) z)) (fun z _ _ => by
                  rw [HNk.out z, List.take_of_length_le (by omega)])
                go_wp2_with fail
                go_roundw
                case rel => exact ⟨k + 1, u + j.work, by omega, by go_num, rfl, by show _ = _; rw [HWk.out, hu.out], by omega, by omega, hM3, hb2⟩
                case measure => simp [intOf]; omega
        · obtain rfl : k = n := by omega
          have ubt : decide ((k : Int) < (k : Int)) = false := by simp
          have hus : u = s := by rw [hu.out, HS.out, works_rest l (HG.out.sub l)]
          have us : u ≤ 640000 := by omega
          have HSu : Hid (u = upTo l k R) := hus.trans HS.out
          have HFr : Hid (∀ z : Int, 0 ≤ z → z < k → (Free l k R z ↔ z ∉ R ∧ decide (0 < named l (rest k R) z) = false)) := fun z z0 z1 => by
            rw [named_free l (HG.out.sub l) z z0 z1, named_rest l (HG.out.sub l)]
            simp
          clear hu u1 hus HS s0 s1
          have hP2 := hP.later hb2
          have hown2 := own_later hown hb2
          have HPp := Lib.hid hP2
          have HOw := Lib.hid hown2
          have HMr := Lib.hid hMr
          have HBw := Lib.hid hbw
          clear hP2 hown2 hMr hP hown hb2 hbw hb
          obtain ⟨W2, hW2⟩ : ∃ W2, W2 = wr := ⟨_, rfl⟩
          subst hW2
          go_wp2_with fail
          go_loopw [9, 10, 11] (fun b e i wi => ∃ (q : Nat) (b0 e0 : Int), q ≤ k ∧ i = .int .i64 q ∧ b = .int .i64 b0 ∧ e = .int .i64 e0 ∧ Scan (Free l k R) (fun z => fineJ (jat l z) u) q b0 ∧ Hid (b0 < 0 ∨ e0 = fineJ (jat l b0) u) ∧ Below W2.heap.size W2 wi) (fun _ _ i _ => k - (intOf i).toNat)
          case atStart => exact ⟨0, -1, 0, Nat.zero_le _, rfl, rfl, rfl, Scan.zero _ _, .inl (by omega), Below.refl _ _⟩
          case round =>
            obtain ⟨q, b0, e0, hq, rfl, rfl, rfl, hsc, he0, hb2⟩ := hrel
            have hbw := HBw.out.trans (hb2.mono HBw.out.size)
            by_cases hqk : q < k
            · have vbt : decide ((q : Int) < (k : Int)) = true := by simp; omega
              have vbt2 : (q : Int) < (k : Int) := by omega
              obtain ⟨g, B, m, cB, e1, hg, hj, c0, c1, c2, c3, c4, _⟩ := rA.both hbw hqk
              subst e1
              have hcalm := HC.out q _ hj
              have hfb := fine_bound hcalm us
              have HF : Hid (fineJ (jat l q) u = (jat l q).wt * max 0 (u - (jat l q).due)) := rfl
              have hfr := Lib.hid (HFr.out (q : Int) (by omega) (by omega))
              have hxl := later_cell (w := wr)
              obtain ⟨_, _, d0, d1, w0, w1⟩ := hcalm
              have HSc := Lib.hid hsc
              obtain ⟨f, hf⟩ : ∃ f, f = fineJ (jat l q) u := ⟨_, rfl⟩
              have HFq := Lib.hid hf
              rw [← hf] at hfb HF
              clear hf hsc hj
              generalize (jat l q).due = d at *
              generalize (jat l q).wt = x at *
              generalize (jat l q).work = y1 at *
              generalize (jat l q).rel = y2 at *
              have hmx : (if d < u then u - d else 0) = max 0 (u - d) := by split <;> omega
              have b1 : 0 ≤ x * max 0 (u - d) := by have := HF.out; omega
              have b2 : x * max 0 (u - d) ≤ 640000000 := by have := HF.out; omega
              have b3 : max 0 (u - d) ≤ 640000 := by omega
              have b4 : 0 ≤ max 0 (u - d) := by omega
              generalize max 0 (u - d) = mm at *
              have hw1 : IntKind.i64.wrap (u - d) = u - d := by rw [IntKind.wrap_i64]; omega
              have hw2 : IntKind.i64.wrap (x * mm) = x * mm := by rw [IntKind.wrap_i64]; omega
              go_wp2_with fail
              refine wp_region_later (by kernel_rfl) (by kernel_rfl) ?_
              repeat (go_big_quiet_step (fail))
              refine wpQuiet_nil ?_
              rintro w3 ⟨⟨_, hb3⟩, rfl⟩
              have hb4 := hb2.trans (hb3.mono hb2.size)
              have cP := (HPp.out.later hb4).at_ hqk
              have cM := (HMr.out.later hb4).at_ hqk
              have lP := (HPp.out.later hb4).lt
              have lM := (HMr.out.later hb4).lt
              clear hxl hb2 hb3 c0 c1 c2 c3 c4 hbw hg
              by_cases hin : (q : Int) ∈ R
              · rw [decide_eq_true hin] at cP
                have HN : Hid (Scan (Free l k R) (fun z => fineJ (jat l z) u) (q + 1) b0) := HSc.out.skip (fun h => (hfr.out.1 h).1 hin)
                clear hfr HSc hin
                go_wp2_with fail
                go_roundw
                case rel => exact ⟨q + 1, b0, e0, by omega, by go_num, rfl, rfl, HN.out, he0, hb4⟩
                case measure => simp [intOf]; omega
              · rw [decide_eq_false hin] at cP
                cases hnm : decide (0 < named l (rest k R) (q : Int)) with
                | true =>
                  rw [hnm] at cM
                  have HN : Hid (Scan (Free l k R) (fun z => fineJ (jat l z) u) (q + 1) b0) := HSc.out.skip (fun h => by have := (hfr.out.1 h).2; rw [hnm] at this; cases this)
                  clear hfr HSc hin hnm
                  go_wp2_with fail
                  go_roundw
                  case rel => exact ⟨q + 1, b0, e0, by omega, by go_num, rfl, rfl, HN.out, he0, hb4⟩
                  case measure => simp [intOf]; omega
                | false =>
                  rw [hnm] at cM
                  have HFe : Hid (Free l k R (q : Int)) := hfr.out.2 ⟨hin, hnm⟩
                  clear hfr hin hnm
                  have HFx : Hid (x * mm = fineJ (jat l q) u) := HF.out.symm.trans HFq.out
                  by_cases h0 : b0 < 0
                  · have u1 : decide (b0 < 0) = true := by simpa using h0
                    have HN : Hid (Scan (Free l k R) (fun z => fineJ (jat l z) u) (q + 1) (q : Int)) := HSc.out.take HFe.out (.inl h0)
                    clear HSc he0
                    go_wp2_with fail
                    go_roundw
                    case rel => exact ⟨q + 1, (q : Int), x * mm, by omega, by go_num, rfl, rfl, HN.out, .inr HFx.out, hb4⟩
                    case measure => simp [intOf]; omega
                  · have u1 : decide (b0 < 0) = false := by simpa using h0
                    have HE : Hid (e0 = fineJ (jat l b0) u) := he0.out.resolve_left h0
                    by_cases hle : x * mm ≤ e0
                    · have u2 : decide (x * mm ≤ e0) = true := by simpa using hle
                      have HN : Hid (Scan (Free l k R) (fun z => fineJ (jat l z) u) (q + 1) (q : Int)) := HSc.out.take HFe.out (.inr (by rw [← HE.out, ← HFx.out]; exact hle))
                      clear HSc he0
                      go_wp2_with fail
                      go_roundw
                      case rel => exact ⟨q + 1, (q : Int), x * mm, by omega, by go_num, rfl, rfl, HN.out, .inr HFx.out, hb4⟩
                      case measure => simp [intOf]; omega
                    · have u2 : decide (x * mm ≤ e0) = false := by simpa using hle
                      have u3 : e0 < x * mm := by omega
                      have HN : Hid (Scan (Free l k R) (fun z => fineJ (jat l z) u) (q + 1) b0) := HSc.out.keep (by omega) (by rw [← HE.out, ← HFx.out]; exact hle)
                      clear HSc he0 hle
                      go_wp2_with fail
                      go_roundw
                      case rel => exact ⟨q + 1, b0, e0, by omega, by go_num, rfl, rfl, HN.out, .inr HE.out, hb4⟩
                      case measure => simp [intOf]; omega
            · obtain rfl : q = k := by omega
              have vbt : decide ((q : Int) < (q : Int)) = false := by simp
              have hpick : Pick l q R b0 := by
                refine Scan.pick l ?_ (fun i a ha => (validB_up HV.out i a ha).2) HR.out
                rw [← HSu.out]
                exact hsc
              have HPk := Lib.hid hpick
              obtain ⟨b, rfl⟩ := Int.eq_ofNat_of_zero_le hpick.1.1
              have hbk : b < q := by have := hpick.1.2.1; omega
              have hbki : (b : Int) < (q : Int) := by omega
              clear hsc hpick he0
              have P3 := HPp.out.later hb2
              have lP := P3.lt
              have fP := P3.frozen b
              have cP := P3.at_ hbk
              have P4 := (P3.set_ b true).congr (g := fun z => decide (z ∈ (b : Int) :: R)) (fun z _ _ => by by_cases ez : z = (b : Int) <;> simp [ez])
              have I3 : InsL w.heap.size (.slice (some ⟨G, 0, none⟩) R.length cap) R wr := ⟨G, cap, rfl, own_later HOw.out hb2⟩
              have I4 := I3.far P3 (p := ⟨P, b, none⟩) rfl (.bool true)
              have B4 := hbw.setCell (p := ⟨P, b, none⟩) hPw (.bool true)
              have hall : Hid (InsL w.heap.size (.slice (some ⟨G, 0, none⟩) R.length cap) R (wr.setCell ⟨P, b, none⟩ (.bool true)) ∧ RowBo (wr.setCell ⟨P, b, none⟩ (.bool true)) P q (fun z => decide (z ∈ (b : Int) :: R)) ∧ Below w.heap.size w (wr.setCell ⟨P, b, none⟩ (.bool true))) := ⟨I4, P4, B4⟩
              clear P3 P4 I3 I4 B4 hb2 hbw
              go_upto_region 23 with (fail)
              revert hall
              generalize wr.setCell ⟨P, b, none⟩ (.bool true) = w4
              intro hall
              clear cP fP lP
              obtain ⟨⟨G2, cap2, e1, hown4⟩, P4, B4⟩ := hall
              cases e1
              have hb5 := (Below.refl w4.heap.size w4).alloc (Nat.le_refl _) (.cells #[.int .i64 (b : Int)] 3)
              have hlit := own_lit w4 (base := w4.heap.size) (b : Int) (Nat.le_refl _)
              have hsrc : RowI (w4.alloc (.cells #[.int .i64 (b : Int)] 3)) (some ⟨G, 0, none⟩) R.length R := own_rowI (own_later hown4 hb5)
              clear hown4
              go_wp2_with (at_builtin; refine app_ints _ rfl (.tmp 109) (.tmp 110) rfl w4.heap.size _ 1 [(b : Int)] rfl hlit (some ⟨G, 0, none⟩) R.length cap R rfl hsrc (by have := HR.out; omega) (by simp) ?_)
              intro v5 w5 hown5 hgr5
              have hb6 : Below w4.heap.size w4 w5 := hb5.grown hgr5 (by simp) (fun p hp => by simp [Value.ownBlock] at hp; omega)
              clear hb5 hlit hsrc hgr5
              have hsz := B4.size
              have hfin : Hid (InsL w.heap.size v5 ((b : Int) :: R) w5) := by
                have e1 : 1 + R.length = ((b : Int) :: R).length := by simp; omega
                rw [e1] at hown5
                obtain ⟨g9, cap9, ev, _⟩ := own_form hown5 (by simp)
                exact ⟨g9, cap9, ev, World.ownsRow.mono hown5 hsz⟩
              have hlv : Hid (lenV v5 = R.length + 1) := by
                obtain ⟨g9, cap9, ev, _⟩ := hfin.out
                show _ = _
                rw [ev]; rfl
              have P6 := P4.later hb6
              have B6 := B4.trans (hb6.mono hsz)
              clear hown5 hb6 P4 B4
              go_wp2_with fail
              go_roundw
              case rel => exact ⟨(b : Int) :: R, by have := HR.out; simp; omega, .cons HG.out HPk.out, hfin.out, P6, B6⟩
              case measure => rw [hlv.out]; have := HR.out; simp [lenV]; omega
    · have hbt : decide ((R.length : Int) < (n : Int)) = false := by simp; omega
      have hRn : R.length = n := by omega
      have hfo : Hid (InsL w.heap.size (.slice (some ⟨G, 0, none⟩) R.length cap) R W1) := ⟨G, cap, rfl, hown⟩
      have HRn := Lib.hid hRn
      clear hown hP hRn
      go_wp2_with fail
      go_ret
      exact ⟨_, R, rfl, HG.out, HRn.out, hfo.out, hb⟩
end Go.Proofs.Ytnfcigbiebbjdaa
