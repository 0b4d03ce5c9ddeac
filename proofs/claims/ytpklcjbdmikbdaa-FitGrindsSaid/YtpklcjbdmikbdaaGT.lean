/-
  The seat's texts RFnd RMst RWo RParP RPar in one: the contracts of the functions that the law reaches, and the plain laws that they rest on.
  Conditions: as each theorem states them.
-/
import Derived.Test.YtpklcjbdmikbdaaGQ
namespace Go.Proofs.Ytpklcjbdmikbdaa
open Go.RowKit

/-- What the search leaves. -/
def RFndR (F : Nat → Nat → Prop) (P S m c1 c2 : Nat) (o : List Int) (t : List Bool) (x : Nat) (w : World) (e : Ending) (w' : World) : Prop :=
  ∃ (b : Bool) (q : List Int) (u : List Bool), e = .returned (.tuple #[.slice (some ⟨P, 0, none⟩) m c1, .slice (some ⟨S, 0, none⟩) m c2, .bool b]) ∧ RowB w' P q ∧ RowO w' S u ∧ u.length = t.length ∧ Only (two P S) w w' ∧ (b = true → Grew F (unseen t) o x q) ∧ (b = false → q = o ∧ Shut F o x t u)
/-- A slice that reads as a list of integers and lies somewhere in a block. -/
def RowQ (w : World) (A : Option Addr) (n : Nat) (l : List Int) : Prop :=
  l.length = n ∧ (0 < n → ∃ g q, A = some ⟨g, q, none⟩ ∧ g < w.heap.size ∧ ∀ (k : Nat) (v : Int), l[k]? = some v → w.cell? ⟨g, q + k, none⟩ = some (.int .i64 v))
section
variable {w w' : World} {A : Option Addr} {n : Nat} {l : List Int}
theorem RowQ.later (h : RowQ w A n l) (hb : Below w.heap.size w w') : RowQ w' A n l :=
  ⟨h.1, fun hn => by
    obtain ⟨g, q, e, hg, hc⟩ := h.2 hn
    exact ⟨g, q, e, Nat.lt_of_lt_of_le hg hb.size, fun k v hk => (hb.cell (p := ⟨g, q + k, none⟩) hg).trans (hc k v hk)⟩⟩
theorem RowQ.at_ {k : Nat} (h : RowQ w A n l) (hk : k < n) : ∃ g q, A = some ⟨g, q, none⟩ ∧ g < w.heap.size ∧ w.cell? ⟨g, q + k, none⟩ = some (.int .i64 (l.getD k 0)) := by
  obtain ⟨g, q, e, hg, hc⟩ := h.2 (by omega)
  have hl : k < l.length := by have := h.1; omega
  refine ⟨g, q, e, hg, hc k _ ?_⟩
  rw [List.getD_eq_getElem?_getD, List.getElem?_eq_getElem hl]
  rfl
theorem RowH.rowQ (h : RowH w A n l) : RowQ w A n l :=
  ⟨h.1, fun hn => by
    obtain ⟨g, e, hg, hc⟩ := h.2 hn
    exact ⟨g, 0, e, hg, fun k v hk => by rw [Nat.zero_add]; exact hc k v hk⟩⟩
theorem RowQ.lt (r : RowQ w A n l) {p : Addr} (hn : 0 < n) (e : A = some p) : p.block < w.heap.size := by
  obtain ⟨g', q', e', hg, _⟩ := r.2 hn
  rw [e] at e'
  injection e' with e'
  rw [e']
  exact hg
theorem Only.rowQ {T : Nat → Prop} (h : Only T w w') (hr : RowQ w A n l) (hA : ∀ p, 0 < n → A = some p → ¬ T p.block) : RowQ w' A n l :=
  ⟨hr.1, fun hn => by
    obtain ⟨g, q, e, hg, hc⟩ := hr.2 hn
    refine ⟨g, q, e, Nat.lt_of_lt_of_le hg h.size, fun k v hk => ?_⟩
    have hbk := h.block g hg (hA _ hn e)
    have h0 := hc k v hk
    simp only [World.cell?] at h0 ⊢
    rw [hbk]
    exact h0⟩
end
set_option maxRecDepth 100000 in
set_option maxHeartbeats 16000000 in
theorem rfind_any {A B : Option Addr} {ca cb : Nat} {s h : List Int} {lo hi : Int} (hs : Sizes s) (hh : Sizes h) (l2 : h.length ≤ 1000) (P S c1 c2 : Nat) (hPS : P ≠ S)
    (hA : ∀ p, 0 < s.length → A = some p → ¬ two P S p.block) (hB : ∀ p, 0 < h.length → B = some p → ¬ two P S p.block) :
    ∀ (d : Nat) (t : List Bool) (o : List Int) (x : Nat) (w : World), dark t = d → RowQ w A s.length s → RowQ w B h.length h →
      RowB w P o → RowO w S t → o.length = h.length → t.length = h.length → Fine (fitP s h lo hi) (unseen t) o → (∀ k, unseen t k → o[k]? ≠ some (x : Int)) → x < s.length →
      Calls Try.prog 67 #[.slice A s.length ca, .slice B h.length cb, .agg #[.int .i64 lo, .int .i64 hi], .int .i64 (x : Int), .slice (some ⟨P, 0, none⟩) h.length c1, .slice (some ⟨S, 0, none⟩) h.length c2] w (RFndR (fitP s h lo hi) P S h.length c1 c2 o t x w) := by
  intro d
  induction d using Nat.strongRecOn with
  | ind d ih =>
    intro t o x w hd rA rB hP hS lo1 lt1 hf hx hxs
    have hb0 : Below w.heap.size w (w.alloc (.cells #[.int .i64 lo, .int .i64 hi] 26)) := (Below.refl _ _).alloc (Nat.le_refl _) _
    have kC := Blk.new w 26 #[.int .i64 lo, .int .i64 hi]
    have rA := rA.later hb0
    have rB := rB.later hb0
    have hPC := hP.lt
    have hSC := hS.lt
    have hP := hP.later hb0
    have hS := hS.later hb0
    have hon0 : Only (two P S) w (w.alloc (.cells #[.int .i64 lo, .int .i64 hi] 26)) := Only.of_below hb0
    have HX := Lib.hid hx
    have HF0 := Lib.hid hf
    clear hb0 hx hf
    go_enter Try.func67, Try.ntmps67
    go_upto_region 1 with fail
    revert kC rA rB hP hS hon0 hPC hSC
    generalize w.alloc (.cells #[.int .i64 lo, .int .i64 hi] 26) = w1
    generalize w.heap.size = C
    intro kC rA rB hPC hSC hP hS hon0
    have hCT : ¬ two P S C := by unfold two; omega
    go_wp2_with fail
    go_loopw [4, 5, 15, 16] (fun vo vs i _ wr => ∃ (k : Nat) (u : List Bool), k ≤ h.length ∧ vo = .slice (some ⟨P, 0, none⟩) h.length c1 ∧ vs = .slice (some ⟨S, 0, none⟩) h.length c2 ∧ i = .int .i64 k ∧ RowB wr P o ∧ RowO wr S u ∧ Hid (ShutTo (fitP s h lo hi) o x k t u) ∧ Only (two P S) w1 wr) (fun _ _ i _ _ => h.length - (RowKit.intOf i).toNat)
    case atStart => exact ⟨0, t, Nat.zero_le _, rfl, rfl, rfl, hP, hS, ShutTo.first _ _ _ _, Only.refl _ _⟩
    case round =>
      obtain ⟨k, u, hk, rfl, rfl, rfl, hP1, hS1, hsh, hon⟩ := hrel
      have rA1 := hon.rowQ rA hA
      have rB1 := hon.rowQ rB hB
      have kC1 := hon.blk kC hCT
      clear hP hS
      by_cases hlt : k < h.length
      · have hut : k < u.length := by have := hsh.out.len; omega
        have hlS := hS1.lt
        have hlP := hP1.lt
        obtain ⟨b, hb⟩ : ∃ b, u[k]? = some b := ⟨_, List.getElem?_eq_getElem hut⟩
        have HB := Lib.hid hb
        have hcS := hS1.at_ hb
        have cC := kC1.cell
        have lC := kC1.lt
        obtain ⟨gs, qs, rfl, has, hcs⟩ := rA1.at_ hxs
        obtain ⟨gh, qh, rfl, hah, hch⟩ := rB1.at_ hlt
        have b1 := hs.at_ x
        have b2 := hh.at_ k
        have hbt : decide ((k : Int) < (h.length : Int)) = true := by simp; omega
        have hki : (k : Int) < (h.length : Int) := by omega
        have hxi : (x : Int) < (s.length : Int) := by omega
        have HFB := Lib.hid (fitB_iff (s := s) (h := h) (lo := lo) (hi := hi) (x := x) (k := k) hxs hlt)
        have hfd : fitB s h lo hi x k = (decide (lo ≤ h.getD k 0 - s.getD x 0) && decide (h.getD k 0 - s.getD x 0 ≤ hi)) := rfl
        have HM := fun w => rin_any (h.getD k 0 - s.getD x 0) lo hi w
        rw [← hfd] at HM
        obtain ⟨fb, hfb⟩ : ∃ b, b = fitB s h lo hi x k := ⟨_, rfl⟩
        rw [← hfb] at HM HFB
        have HM' := Lib.hid HM
        clear HM hfd hfb hb
        generalize h.getD k 0 = hv at *
        generalize s.getD x 0 = sv at *
        have hxl := later_cell (w := wr)
        cases fb with
        | false =>
          have HS2 : Hid (ShutTo (fitP s h lo hi) o x (k + 1) t u) := hsh.out.skip fun hh => by have := HFB.out.2 hh; cases this
          clear hsh
          go_wp2_with fail
          refine wp_region_later (by kernel_rfl) (by kernel_rfl) ?_
          repeat (go_big_quiet_step ((go_at_call 60; exact later_same (HM'.out _))))
          refine wpQuiet_nil ?_
          rintro w2 ⟨⟨_, hb2⟩, rfl⟩
          clear hxl hcs hch hcS cC lC
          have hP2 := hP1.later hb2
          have hS2 := hS1.later hb2
          have hon2 := hon.below hb2
          clear hP1 hS1 hon hb2 rA1 rB1 kC1
          go_wp2_with fail
          go_roundw
          case rel => exact ⟨k + 1, u, by omega, rfl, rfl, by go_num, hP2, hS2, HS2, hon2⟩
          case measure => simp [RowKit.intOf]; omega
        | true =>
          have hF := Lib.hid (HFB.out.1 rfl)
          cases b with
          | true =>
            have HS2 : Hid (ShutTo (fitP s h lo hi) o x (k + 1) t u) := hsh.out.skip fun _ => HB.out
            clear hsh
            go_wp2_with fail
            refine wp_region_later (by kernel_rfl) (by kernel_rfl) ?_
            repeat (go_big_quiet_step ((go_at_call 60; exact later_same (HM'.out _))))
            refine wpQuiet_nil ?_
            rintro w2 ⟨⟨_, hb2⟩, rfl⟩
            clear hxl hcs hch hcS cC lC
            have hP2 := hP1.later hb2
            have hS2 := hS1.later hb2
            have hon2 := hon.below hb2
            clear hP1 hS1 hon hb2 rA1 rB1 kC1
            go_wp2_with fail
            go_roundw
            case rel => exact ⟨k + 1, u, by omega, rfl, rfl, by go_num, hP2, hS2, HS2, hon2⟩
            case measure => simp [RowKit.intOf]; omega
          | false =>
            have HUS := Lib.hid (unseen_sub hsh.out.len hsh.out.more)
            have HTK := Lib.hid (HUS.out k HB.out)
            obtain ⟨v, hv2⟩ : ∃ v, o[k]? = some v := ⟨_, List.getElem?_eq_getElem (by omega)⟩
            have HV := Lib.hid hv2
            clear hv2
            go_wp2_with fail
            refine wp_region_later (by kernel_rfl) (by kernel_rfl) ?_
            repeat (go_big_quiet_step ((go_at_call 60; exact later_same (HM'.out _))))
            refine wpQuiet_nil ?_
            rintro w2 ⟨⟨_, hb2⟩, rfl⟩
            clear hxl hcs hch hcS cC lC hlS hlP
            have hP2 := hP1.later hb2
            have hS2 := hS1.later hb2
            have hon2 := hon.below hb2
            have rA2 := rA1.later hb2
            have rB2 := rB1.later hb2
            have kC2 := kC1.later hb2
            clear hP1 hS1 hon rA1 rB1 kC1
            have hcS := hS2.at_ HB.out
            have hfS := hS2.frozen k
            have hlS2 := hS2.lt
            go_upto_region 6 with fail
            have hP3 := hP2.far (p := ⟨S, k, none⟩) hPS (.bool true)
            have hS3 := hS2.set_ k true
            have kC3 := kC2.far (p := ⟨S, k, none⟩) (fun e => hCT (.inr e)) (.bool true)
            have hon3 := hon2.setCell (p := ⟨S, k, none⟩) (.inl (.inr rfl)) (.bool true)
            have honX : Only (two P S) w2 (w2.setCell ⟨S, k, none⟩ (.bool true)) := (Only.refl _ w2).setCell (p := ⟨S, k, none⟩) (.inl (.inr rfl)) (.bool true)
            have rA3 := honX.rowQ rA2 hA
            have rB3 := honX.rowQ rB2 hB
            clear hcS hfS hlS2 hP2 hS2 kC2 hon2 rA2 rB2 honX
            revert hP3 hS3 kC3 hon3 rA3 rB3
            generalize w2.setCell ⟨S, k, none⟩ (.bool true) = w3
            clear hb2
            intro hP3 hS3 kC3 hon3 rA3 rB3
            have hcP := hP3.at_ HV.out
            have hfP := hP3.frozen k
            have hlP3 := hP3.lt
            by_cases hv0 : v < 0
            · have hvt : decide (v < 0) = true := by simpa using hv0
              have HG := Lib.hid (Grew.here HTK.out hF.out HV.out hv0 HF0.out HX.out)
              have HP4 := Lib.hid (hP3.set_ k (x : Int))
              have HS4 := Lib.hid (hS3.far (p := ⟨P, k, none⟩) (Ne.symm hPS) (.int .i64 (x : Int)))
              have HO4 := Lib.hid (hon0.trans (hon3.setCell (p := ⟨P, k, none⟩) (.inl (.inl rfl)) (.int .i64 (x : Int))))
              clear hP3 hS3 hon3 kC3 rA3 rB3
              go_wp2_with fail
              go_ret3
              exact ⟨true, _, _, rfl, HP4.out, HS4.out, by rw [List.length_set]; exact hsh.out.len, HO4.out, fun _ => HG.out, fun h => (by cases h)⟩
            · have hvt : decide (v < 0) = false := by simpa using hv0
              obtain ⟨y, rfl⟩ := Int.eq_ofNat_of_zero_le (by omega : 0 ≤ v)
              have HIF := Lib.hid (unseen_set hut)
              have hIH := Lib.hid fun V (r1 : RowQ V (some ⟨gs, qs, none⟩) s.length s) (r2 : RowQ V (some ⟨gh, qh, none⟩) h.length h) (r3 : RowB V P o) (r4 : RowO V S (u.set k true)) => ih (dark (u.set k true)) (by
                have hds := dark_set HB.out
                have hdl := dark_le hsh.out.len hsh.out.more
                omega) (u.set k true) o y V rfl r1 r2 r3 r4 lo1 (by rw [List.length_set, hsh.out.len]; exact lt1) (HF0.out.sub fun g hg => HUS.out g ((HIF.out g).1 hg).1)
                (fun g hg hy => ((HIF.out g).1 hg).2 (HF0.out.inj g k y (HUS.out g ((HIF.out g).1 hg).1) HTK.out hy HV.out)) (HF0.out.fit k y HTK.out HV.out).1
              have HD := Lib.hid hd
              clear hd hfP
              go_upto_region 8 with fail
              go_cut [4, 5, 16] from 17 to 74 (fun vo vs vb wx => ∃ (b : Bool) (q : List Int) (u3 : List Bool), vo = .slice (some ⟨P, 0, none⟩) h.length c1 ∧ vs = .slice (some ⟨S, 0, none⟩) h.length c2 ∧ vb = .bool b ∧ RowB wx P q ∧ RowO wx S u3 ∧ u3.length = (u.set k true).length ∧ Only (two P S) w1 wx ∧ q[k]? = some (y : Int) ∧ (b = true → Grew (fitP s h lo hi) (unseen (u.set k true)) o y q) ∧ (b = false → q = o ∧ Shut (fitP s h lo hi) o y (u.set k true) u3))
              case first =>
                have cC := kC3.cell
                have S0 : w3.cell? ⟨P, k, none⟩ = some (.int .i64 (y : Int)) ∧ w3.cell? ⟨C, 0, none⟩ = some (.int .i64 lo) ∧ w3.cell? ⟨C, 1, none⟩ = some (.int .i64 hi) := ⟨hcP, cC 0, cC 1⟩
                refine wp_region_held_drew (S := fun V => V.cell? ⟨P, k, none⟩ = some (.int .i64 (y : Int)) ∧ V.cell? ⟨C, 0, none⟩ = some (.int .i64 lo) ∧ V.cell? ⟨C, 1, none⟩ = some (.int .i64 hi)) (by kernel_rfl) S0 (fun hHeld => ?_)
                refine wpAnyH_take (i := 0) (v := ?_) rfl (by kernel_rfl) (by kernel_rfl) (by kernel_rfl) (fun _ _ _ h => h) (Or.inl ⟨by rfl, ?hy⟩) (by assumption) ?_
                case hy => (intro w hSw; obtain ⟨hc1, hc2, hc3⟩ := hSw; go_simp; try with_reducible rfl)
                refine wpAnyH_take (i := 1) (v := ?_) rfl (by kernel_rfl) (by kernel_rfl) (by kernel_rfl) (fun _ _ _ h => h) (Or.inl ⟨by rfl, ?hy⟩) (by assumption) ?_
                case hy => (intro w hSw; obtain ⟨hc1, hc2, hc3⟩ := hSw; go_simp; try with_reducible rfl)
                refine wpAnyH_take (i := 2) (v := ?_) rfl (by kernel_rfl) (by kernel_rfl) (by kernel_rfl) (fun _ _ _ h => h) (Or.inl ⟨by rfl, ?hy⟩) (by assumption) ?_
                case hy => (intro w hSw; obtain ⟨hc1, hc2, hc3⟩ := hSw; go_simp; try with_reducible rfl)
                refine wpAnyH_take (i := 3) (v := ?_) rfl (by kernel_rfl) (by kernel_rfl) (by kernel_rfl) (fun _ _ _ h => h) (Or.inl ⟨by rfl, ?hy⟩) (by assumption) ?_
                case hy => (intro w hSw; obtain ⟨hc1, hc2, hc3⟩ := hSw; go_simp; try with_reducible rfl)
                refine wpAnyH_take (i := 4) (v := ?_) rfl (by kernel_rfl) (by kernel_rfl) (by kernel_rfl) (fun _ _ _ h => h) (Or.inl ⟨by rfl, ?hy⟩) (by assumption) ?_
                case hy => (intro w hSw; obtain ⟨hc1, hc2, hc3⟩ := hSw; go_simp; try with_reducible rfl)
                refine wpAnyH_take (i := 5) (v := ?_) rfl (by kernel_rfl) (by kernel_rfl) (by kernel_rfl) (fun _ _ _ h => h) (Or.inl ⟨by rfl, ?hy⟩) (by assumption) ?_
                case hy => (intro w hSw; obtain ⟨hc1, hc2, hc3⟩ := hSw; go_simp; try with_reducible rfl)
                refine wpAnyH_take (i := 6) (v := ?_) rfl (by kernel_rfl) (by kernel_rfl) (by kernel_rfl) (fun _ _ _ h => h) (Or.inl ⟨by rfl, ?hy⟩) (by assumption) ?_
                case hy => (intro w hSw; obtain ⟨hc1, hc2, hc3⟩ := hSw; go_simp; try with_reducible rfl)
                refine wpAnyH_take (i := 7) (v := ?_) rfl (by kernel_rfl) (by kernel_rfl) (by kernel_rfl) (fun _ _ _ h => h) (Or.inl ⟨by rfl, ?hy⟩) (by assumption) ?_
                case hy => (intro w hSw; obtain ⟨hc1, hc2, hc3⟩ := hSw; go_simp; try with_reducible rfl)
                refine wpAnyH_take (i := 8) (v := ?_) rfl (by kernel_rfl) (by kernel_rfl) (by kernel_rfl) (fun _ _ _ h => h) (Or.inl ⟨by rfl, ?hy⟩) (by assumption) ?_
                case hy => (intro w hSw; obtain ⟨hc1, hc2, hc3⟩ := hSw; go_simp; try with_reducible rfl)
                clear cC S0 hcP hHeld
                simp only [Act.put, List.setIfInBounds_toArray]
                replace hP3 : RowB w3.drew P o := hP3
                replace hS3 : RowO w3.drew S (u.set k true) := hS3
                replace hon3 := hon3.drew
                replace kC3 := kC3.drew
                replace rA3 : RowQ w3.drew (some ⟨gs, qs, none⟩) s.length s := rA3
                replace rB3 : RowQ w3.drew (some ⟨gh, qh, none⟩) h.length h := rB3
                revert hP3 hS3 hon3 kC3 rA3 rB3
                generalize w3.drew = w4
                intro hP3 hS3 hon3 kC3 rA3 rB3
                refine wpAnyH_ready (rs := [9]) (by kernel_rfl) (by simp) (AllReadyH.cons rfl (fun K hK => ?_) AllReadyH.nil)
                go_simp
                refine (hIH.out w4 rA3 rB3 hP3 hS3).mono ?_
                rintro e w5 ⟨b3, q, u3, rfl, hP5, hS5, hl5, hon5, hy5, hn5⟩
                have HQK : Hid (q[k]? = some (y : Int)) := by
                  cases b3 with
                  | true => exact ((hy5 rfl).same k (fun hh => ((HIF.out k).1 hh).2 rfl)).trans HV.out
                  | false => rw [(hn5 rfl).1]; exact HV.out
                have cP5 := hP5.at_ HQK.out
                have kC5 := hon5.blk kC3 hCT
                have cC5 := kC5.cell
                refine hK.out _ _ ⟨cP5, cC5 0, cC5 1⟩ (fun _ => ?_)
                clear hK K cP5 cC5 kC5
                refine wpAnyH_take (i := 10) (v := ?_) rfl (by kernel_rfl) (by kernel_rfl) (by kernel_rfl) (fun _ _ _ h => h) (Or.inl ⟨by rfl, ?hy⟩) (by assumption) ?_
                case hy => (intro w hSw; obtain ⟨hc1, hc2, hc3⟩ := hSw; go_simp; try with_reducible rfl)
                refine wpAnyH_take (i := 11) (v := ?_) rfl (by kernel_rfl) (by kernel_rfl) (by kernel_rfl) (fun _ _ _ h => h) (Or.inl ⟨by rfl, ?hy⟩) (by assumption) ?_
                case hy => (intro w hSw; obtain ⟨hc1, hc2, hc3⟩ := hSw; go_simp; try with_reducible rfl)
                refine wpAnyH_take (i := 12) (v := ?_) rfl (by kernel_rfl) (by kernel_rfl) (by kernel_rfl) (fun _ _ _ h => h) (Or.inl ⟨by rfl, ?hy⟩) (by assumption) ?_
                case hy => (intro w hSw; obtain ⟨hc1, hc2, hc3⟩ := hSw; go_simp; try with_reducible rfl)
                refine wpAnyH_take (i := 13) (v := ?_) rfl (by kernel_rfl) (by kernel_rfl) (by kernel_rfl) (fun _ _ _ h => h) (Or.inl ⟨by rfl, ?hy⟩) (by assumption) ?_
                case hy => (intro w hSw; obtain ⟨hc1, hc2, hc3⟩ := hSw; go_simp; try with_reducible rfl)
                refine wpAnyH_take (i := 14) (v := ?_) rfl (by kernel_rfl) (by kernel_rfl) (by kernel_rfl) (fun _ _ _ h => h) (Or.inl ⟨by rfl, ?hy⟩) (by assumption) ?_
                case hy => (intro w hSw; obtain ⟨hc1, hc2, hc3⟩ := hSw; go_simp; try with_reducible rfl)
                refine wpAnyH_take (i := 15) (v := ?_) rfl (by kernel_rfl) (by kernel_rfl) (by kernel_rfl) (fun _ _ _ h => h) (Or.inl ⟨by rfl, ?hy⟩) (by assumption) ?_
                case hy => (intro w hSw; obtain ⟨hc1, hc2, hc3⟩ := hSw; go_simp; try with_reducible rfl)
                refine wpAnyH_take (i := 16) (v := ?_) rfl (by kernel_rfl) (by kernel_rfl) (by kernel_rfl) (fun _ _ _ h => h) (Or.inl ⟨by rfl, ?hy⟩) (by assumption) ?_
                case hy => (intro w hSw; obtain ⟨hc1, hc2, hc3⟩ := hSw; go_simp; try with_reducible rfl)
                refine wpAnyH_done (by kernel_rfl) ?_ _
                go_wp2_with fail
                go_meet
                case rel => exact ⟨b3, q, u3, rfl, rfl, rfl, hP5, hS5, hl5, hon3.trans hon5, HQK.out, hy5, hn5⟩
              case rest =>
                obtain ⟨b3, q, u3, rfl, rfl, rfl, hP4, hS4, hl3, hon5, hqk, hy3, hn3⟩ := hcut
                clear hcP hlP3 hP3 hS3 kC3 hon3 rA3 rB3 hIH
                cases b3 with
                | true =>
                  have HG := Lib.hid (Grew.wide HUS.out HF0.out HX.out (Grew.on (U := unseen u) HB.out hF.out HV.out (HF0.out.sub HUS.out) (fun g hg => HX.out g (HUS.out g hg)) ((hy3 rfl).iff HIF.out)))
                  have hlP5 := hP4.lt
                  have hcP5 := hP4.at_ hqk
                  have hfP5 := hP4.frozen k
                  have HP5 := Lib.hid (hP4.set_ k (x : Int))
                  have HS5 := Lib.hid (hS4.far (p := ⟨P, k, none⟩) (Ne.symm hPS) (.int .i64 (x : Int)))
                  have HO5 := Lib.hid (hon0.trans (hon5.setCell (p := ⟨P, k, none⟩) (.inl (.inl rfl)) (.int .i64 (x : Int))))
                  have HL := Lib.hid hl3
                  clear hP4 hS4 hon5 hy3 hn3 hqk hl3
                  go_wp2_with fail
                  go_ret3
                  exact ⟨true, _, _, rfl, HP5.out, HS5.out, by rw [HL.out, List.length_set]; exact hsh.out.len, HO5.out, fun _ => HG.out, fun h => (by cases h)⟩
                | false =>
                  obtain ⟨rfl, hsh3⟩ := hn3 rfl
                  have HN := Lib.hid (hsh.out.next hut HV.out hsh3)
                  clear hy3 hn3 hl3 hsh3 hqk hsh
                  go_wp2_with fail
                  go_roundw
                  case rel => exact ⟨k + 1, u3, by omega, rfl, rfl, by go_num, hP4, hS4, HN, hon5⟩
                  case measure => simp [RowKit.intOf]; omega
      · obtain rfl : k = h.length := by omega
        have hbt : decide ((h.length : Int) < (h.length : Int)) = false := by simp
        have HO5 := Lib.hid (hon0.trans hon)
        go_wp2_with fail
        go_ret3
        exact ⟨false, o, u, rfl, hP1, hS1, hsh.out.len, HO5.out, fun h => (by cases h), fun _ => ⟨rfl, hsh.out.done fun g hg => hg.2.1⟩⟩
end Go.Proofs.Ytpklcjbdmikbdaa
namespace Go.Proofs.Ytpklcjbdmikbdaa
open Go.RowKit

theorem sapp_ints {ops : Array Oper} {o : Oper} {a : Act} {w : World} {K : Act → World → Prop} {Q : Exit → Act → World → Prop} {E : Prop} (hgd : o.guard = none) (s x : Operand)
    (ho : o.op = .call { callee := .builtin .append, args := #[s, x], argTypes := #[23, 23] }) (base g n c : Nat) (xs : List Int) (hs : a.eval s = .slice (some ⟨g, 0, none⟩) n c) (hown : w.ownsRow base 3 1 (.slice (some ⟨g, 0, none⟩) n c) n (xs.map (Value.int .i64)))
    (ao : Option Addr) (m d : Nat) (l : List Int) (hx : a.eval x = .slice ao m d) (hr : RowI w ao m l) (hn : n + m ≤ 100000) (hbase : base ≤ w.heap.size)
    (h : ∀ g' cap w', w'.ownsRow base 3 1 (.slice (some ⟨g', 0, none⟩) (n + m) cap) (n + m) ((xs ++ l).map (Value.int .i64)) → w.grownBy w' (some g) → K (a.put o.dst (.slice (some ⟨g', 0, none⟩) (n + m) cap)) w') :
    if Region.wanted o (yielded ops a.tmps) = true then Oper.wp Try.prog o a w K Q else E := by
  obtain ⟨i0, hi, hz0, hz1, hz2⟩ := info_parts info3
  rcases Nat.eq_zero_or_pos m with z | z
  · subst z
    have hl : l = [] := List.eq_nil_of_length_eq_zero hr.1
    subst hl
    have hsrc : Src Try.prog i0.size 23 (.slice ao 0 d) 0 [] w := by
      cases ao with
      | none => exact Src.ofNil w Try.underlying23 d
      | some ad => exact Src.ofSlice w Try.underlying23 ad 0 d [] (by simp) (by simp) (by simp)
    have hle : n ≤ c := by
      rcases hown.2 with ⟨h1, _⟩ | ⟨g', cap, cur, h1, _, _, h2, _⟩
      · simp at h1
      · simp at h1; omega
    have hrun := run_append_nothing (P := Try.prog) w 23 23 o.type 3 i0 Try.underlying23 hi (some ⟨g, 0, none⟩) n c hle _ hsrc
    have hw : Region.wanted o (yielded ops a.tmps) = true := by simp [Region.wanted, hgd]
    rw [if_pos hw]
    unfold Oper.wp
    simp [execOp, ho, resolve, invoke, builtin, hs, hx, hrun, Result.andThen]
    exact h g c w (by simpa using hown) (World.grownBy.refl _ _)
  · obtain ⟨ad, e, _, _⟩ := hr.2 z
    subst e
    refine step_append_lies w hgd s x 23 ho base 3 i0 (.int .i64 0) 1 8 Try.underlying23 hi hz0 hz1 hz2 rfl (by decide) _ n _ hs hown ad m d (l.map (Value.int .i64)) hx (by rw [List.length_map, hr.1]; omega) (rowI_news hr z) (ints_one _) z (by unfold maxLen; omega) (by omega) hbase _ rfl ?_
    intro g' cap w' hown' hgr _ _
    exact h g' cap w' (by rw [List.map_append]; exact hown') hgr
theorem fill_set (m k : Nat) (hk : k < m) : (List.replicate k (-1 : Int) ++ List.replicate (m - k) 0).set k (-1) = List.replicate (k + 1) (-1) ++ List.replicate (m - (k + 1)) 0 := by
  obtain ⟨d, hd⟩ : ∃ d, m - k = d + 1 := ⟨m - k - 1, by omega⟩
  rw [hd, show m - (k + 1) = d by omega, List.set_append_right _ _ (by simp), List.length_replicate, Nat.sub_self, List.replicate_succ, List.set_cons_zero, List.replicate_succ', List.append_assoc]
  rfl
theorem fill_get (m k : Nat) (hk : k < m) : (List.replicate k (-1 : Int) ++ List.replicate (m - k) 0)[k]? = some 0 := by
  rw [List.getElem?_append_right (by simp), List.length_replicate, Nat.sub_self, List.getElem?_replicate, if_pos (by omega)]
/-- The number of pairs that the document tells. -/
def MostN (s h : List Int) (lo hi : Int) (w : World) (e : Ending) (w' : World) : Prop :=
  ∃ n : Nat, e = .returned (.int .i64 (n : Int)) ∧ Mx (fitP s h lo hi) (fun _ => True) (· < h.length) n ∧ n ≤ s.length ∧ Below w.heap.size w w'
set_option maxRecDepth 100000 in
set_option maxHeartbeats 16000000 in
theorem rmost_any {A B : Option Addr} {ca cb : Nat} {s h : List Int} {lo hi : Int} (w : World) (hs : Sizes s) (hh : Sizes h) (l1 : s.length ≤ 1000) (l2 : h.length ≤ 1000) (rA : RowQ w A s.length s) (rB : RowQ w B h.length h) :
    Calls Try.prog 42 #[.slice A s.length ca, .slice B h.length cb, .agg #[.int .i64 lo, .int .i64 hi]] w (MostN s h lo hi w) := by
  have hb0 : Below w.heap.size w (w.alloc (.cells #[.int .i64 lo, .int .i64 hi] 26)) := (Below.refl _ _).alloc (Nat.le_refl _) _
  have kC := Blk.new w 26 #[.int .i64 lo, .int .i64 hi]
  have HS := Lib.hid hs
  have HH := Lib.hid hh
  have hmk := make_ints h.length (by omega)
  have hsz : (w.alloc (.cells #[.int .i64 lo, .int .i64 hi] 26)).heap.size = w.heap.size + 1 := by simp
  have HRA := Lib.hid rA
  have HRB := Lib.hid rB
  clear hs hh
  go_enter Try.func42, Try.ntmps42
  go_upto_region 1 with fail
  revert kC hb0 hsz
  generalize w.alloc (.cells #[.int .i64 lo, .int .i64 hi] 26) = w1
  intro hb0 kC hsz
  have rA := rA.later hb0
  have rB := rB.later hb0
  obtain ⟨C, hCe⟩ : ∃ C, C = w.heap.size := ⟨_, rfl⟩
  rw [← hCe] at kC hsz ⊢
  have HC := Lib.hid hCe
  have HSZ := Lib.hid hsz
  clear hsz
  go_upto_region 2 with fail
  have hP0 : RowB (w1.alloc (.cells (rowc (List.replicate h.length 0)) 3)) w1.heap.size (List.replicate h.length 0) := RowB.of (Blk.new w1 3 _)
  have hb1 : Below w1.heap.size w1 (w1.alloc (.cells (rowc (List.replicate h.length 0)) 3)) := (Below.refl _ _).alloc (Nat.le_refl _) _
  obtain ⟨P0, hPe⟩ : ∃ P, P = w1.heap.size := ⟨_, rfl⟩
  have HP0 := Lib.hid hPe
  rw [← hPe] at hP0 ⊢
  clear hmk hPe hCe
  revert hP0 hb1
  generalize w1.alloc (.cells (rowc (List.replicate h.length 0)) 3) = w2
  intro hb1 hP0
  have rA := rA.later hb1
  have rB := rB.later hb1
  have kC := kC.later hb1
  have hNP : w.heap.size ≤ P0 := by have h1 := HP0.out; have h2 := HC.out; have h3 := HSZ.out; omega
  have hb2 := hb0.trans (hb1.mono hb0.size)
  clear hb0 hb1
  go_wp2_with fail
  go_loopw [8] (fun i wr => ∃ k : Nat, k ≤ h.length ∧ i = .int .i64 k ∧ RowB wr P0 (List.replicate k (-1) ++ List.replicate (h.length - k) 0) ∧ Only (fun g => g = P0) w2 wr) (fun i _ => h.length - (RowKit.intOf i).toNat)
  case atStart => exact ⟨0, Nat.zero_le _, rfl, hP0, Only.refl _ _⟩
  case round =>
    clear hP0
    obtain ⟨k, hk, rfl, hP, hon⟩ := hrel
    by_cases hlt : k < h.length
    · have hd : decide ((k : Int) < (h.length : Int)) = true := decide_eq_true (by omega)
      have hki : (k : Int) < (h.length : Int) := by omega
      have hc := hP.at_ (fill_get h.length k hlt)
      have hf := hP.frozen k
      have hl := hP.lt
      have HP2 : Hid (RowB (wr.setCell ⟨P0, k, none⟩ (.int .i64 (-1))) P0 (List.replicate (k + 1) (-1) ++ List.replicate (h.length - (k + 1)) 0)) := by
        have := hP.set_ k (-1)
        rwa [fill_set h.length k hlt] at this
      have HO2 := Lib.hid (hon.setCell (p := ⟨P0, k, none⟩) (.inl rfl) (.int .i64 (-1)))
      clear hP hon
      go_wp2_with fail
      go_roundw
      case rel => exact ⟨k + 1, by omega, by go_num, HP2.out, HO2.out⟩
      case measure => simp [RowKit.intOf]; omega
    · obtain rfl : k = h.length := by omega
      have hd : decide ((h.length : Int) < (h.length : Int)) = false := decide_eq_false (by omega)
      rw [Nat.sub_self, List.replicate_zero, List.append_nil] at hP
      have rA2 := HRA.out.later (hb2.trans (hon.to_below hb2.size (fun j hj => by subst hj; exact hNP)))
      have rB2 := HRB.out.later (hb2.trans (hon.to_below hb2.size (fun j hj => by subst hj; exact hNP)))
      have kC2 : Blk wr C 26 #[.int .i64 lo, .int .i64 hi] := hon.blk kC (by have h1 := HP0.out; have h2 := HC.out; have h3 := HSZ.out; omega)
      have hb3 : Below w.heap.size w wr := hb2.trans (hon.to_below hb2.size (fun j hj => by subst hj; exact hNP))
      have HU0 : Hid (Upto (fitP s h lo hi) h.length 0 (List.replicate h.length (-1)) 0) := Upto.first _ _
      clear hon kC rA rB hb2
      go_wp2_with fail
      go_loopw [7, 9, 10, 11, 12, 13] (fun vo c i _ _ _ wr => ∃ (k n P cP : Nat) (o : List Int), k ≤ s.length ∧ n ≤ k ∧ i = .int .i64 k ∧ c = .int .i64 n ∧ vo = .slice (some ⟨P, 0, none⟩) h.length cP ∧ RowB wr P o ∧ w.heap.size ≤ P ∧ Hid (Upto (fitP s h lo hi) h.length k o n) ∧ Blk wr C 26 #[.int .i64 lo, .int .i64 hi] ∧ Below w.heap.size w wr) (fun _ _ i _ _ _ _ => s.length - (RowKit.intOf i).toNat)
      case atStart => exact ⟨0, 0, P0, _, _, Nat.zero_le _, Nat.le_refl _, rfl, rfl, rfl, hP, hNP, HU0, kC2, hb3⟩
      case round =>
        clear hP HU0 kC2 hb3 rA2 rB2
        obtain ⟨wq, hwq⟩ : ∃ x, x = wr := ⟨_, rfl⟩
        subst hwq
        obtain ⟨k, n, P, cP, o, hk, hnk, rfl, rfl, rfl, hP, hNPk, HU, kC, hb⟩ := hrel
        by_cases hlt : k < s.length
        · have hd : decide ((k : Int) < (s.length : Int)) = true := decide_eq_true (by omega)
          have hki : (k : Int) < (s.length : Int) := by omega
          have rAq := HRA.out.later hb
          have rBq := HRB.out.later hb
          have hol := HU.out.len
          have HPO : Hid (RowI wq (some ⟨P, 0, none⟩) h.length o) := RowI.of_row hP hol
          have HFN := Lib.hid fun (V : World) (g S c : Nat) (hPS : g ≠ S) (hg : wq.heap.size ≤ g) (hS : wq.heap.size ≤ S) (hbV : Below wq.heap.size wq V) (hPB : RowB V g o) (hrow : RowO V S (List.replicate h.length false)) =>
            rfind_any (ca := ca) (cb := cb) HS.out HH.out l2 g S c h.length hPS (fun p h0 e hT => by have := rAq.lt h0 e; rcases hT with hT | hT <;> omega) (fun p h0 e hT => by have := rBq.lt h0 e; rcases hT with hT | hT <;> omega)
              _ (List.replicate h.length false) o k V rfl (rAq.later hbV) (rBq.later hbV) hPB hrow hol (by simp) (fine_iff HU.out.fine fun g => unseen_rep) (fun g _ hg => by have := HU.out.lt g k hg; omega) hlt
          have hmb := make_bools h.length (by omega)
          have HK1 := Lib.hid (show k + 1 ≤ s.length from hlt)
          have HK2 := Lib.hid (show n + 1 ≤ k + 1 from Nat.succ_le_succ hnk)
          have HK3 := Lib.hid (show n ≤ k + 1 from Nat.le_succ_of_le hnk)
          have HK4 := Lib.hid (show s.length - (k + 1) < s.length - k from by omega)
          clear rAq rBq hol
          go_upto_region 10 with fail
          go_cut [11, 12, 13] from 26 to 50 (fun vn _ vb wx => ∃ (b : Bool) (q : List Int) (P' c' : Nat), vn = .slice (some ⟨P', 0, none⟩) h.length c' ∧ vb = .bool b ∧ RowB wx P' q ∧ wq.heap.size ≤ P' ∧ (b = true → Upto (fitP s h lo hi) h.length (k + 1) q (n + 1)) ∧ (b = false → Upto (fitP s h lo hi) h.length (k + 1) o n) ∧ Below wq.heap.size wq wx)
          case first =>
            have cC := kC.cell
            have lC := kC.lt
            clear hd hki hk hnk hb hP kC
            refine wp_region_held_drew (S := fun V => Below wq.heap.size wq V) (by kernel_rfl) (Below.refl _ _).drew (fun hHeld => ?_)
            refine wpAnyH_take (i := 0) (v := ?_) rfl (by kernel_rfl) (by kernel_rfl) (by kernel_rfl) (fun _ _ _ h => h) (Or.inl ⟨by rfl, ?hy⟩) (by assumption) ?_
            case hy => (intro w hSw; have hcw : ∀ p o, p < wq.heap.size → w.cell? ⟨p, o, none⟩ = wq.cell? ⟨p, o, none⟩ := (fun p o h => hSw.cell (p := ⟨p, o, none⟩) h); clear hSw; go_simp; try with_reducible rfl)
            refine wpAnyH_take (i := 1) (v := ?_) rfl (by kernel_rfl) (by kernel_rfl) (by kernel_rfl) (fun _ _ _ h => h) (Or.inl ⟨by rfl, ?hy⟩) (by assumption) ?_
            case hy => (intro w hSw; have hcw : ∀ p o, p < wq.heap.size → w.cell? ⟨p, o, none⟩ = wq.cell? ⟨p, o, none⟩ := (fun p o h => hSw.cell (p := ⟨p, o, none⟩) h); clear hSw; go_simp; try with_reducible rfl)
            refine wpAnyH_take (i := 2) (v := ?_) rfl (by kernel_rfl) (by kernel_rfl) (by kernel_rfl) (fun _ _ _ h => h) (Or.inl ⟨by rfl, ?hy⟩) (by assumption) ?_
            case hy => (intro w hSw; have hcw : ∀ p o, p < wq.heap.size → w.cell? ⟨p, o, none⟩ = wq.cell? ⟨p, o, none⟩ := (fun p o h => hSw.cell (p := ⟨p, o, none⟩) h); clear hSw; go_simp; try with_reducible rfl)
            refine wpAnyH_take (i := 3) (v := ?_) rfl (by kernel_rfl) (by kernel_rfl) (by kernel_rfl) (fun _ _ _ h => h) (Or.inl ⟨by rfl, ?hy⟩) (by assumption) ?_
            case hy => (intro w hSw; have hcw : ∀ p o, p < wq.heap.size → w.cell? ⟨p, o, none⟩ = wq.cell? ⟨p, o, none⟩ := (fun p o h => hSw.cell (p := ⟨p, o, none⟩) h); clear hSw; go_simp; try with_reducible rfl)
            refine wpAnyH_take (i := 5) (v := ?_) rfl (by kernel_rfl) (by kernel_rfl) (by kernel_rfl) (fun _ _ _ h => h) (Or.inl ⟨by rfl, ?hy⟩) (by assumption) ?_
            case hy => (intro w hSw; have hcw : ∀ p o, p < wq.heap.size → w.cell? ⟨p, o, none⟩ = wq.cell? ⟨p, o, none⟩ := (fun p o h => hSw.cell (p := ⟨p, o, none⟩) h); clear hSw; go_simp; try with_reducible rfl)
            refine wpAnyH_take (i := 7) (v := ?_) rfl (by kernel_rfl) (by kernel_rfl) (by kernel_rfl) (fun _ _ _ h => h) (Or.inl ⟨by rfl, ?hy⟩) (by assumption) ?_
            case hy => (intro w hSw; have hcw : ∀ p o, p < wq.heap.size → w.cell? ⟨p, o, none⟩ = wq.cell? ⟨p, o, none⟩ := (fun p o h => hSw.cell (p := ⟨p, o, none⟩) h); clear hSw; go_simp; try with_reducible rfl)
            refine wpAnyH_take (i := 8) (v := ?_) rfl (by kernel_rfl) (by kernel_rfl) (by kernel_rfl) (fun _ _ _ h => h) (Or.inl ⟨by rfl, ?hy⟩) (by assumption) ?_
            case hy => (intro w hSw; have hcw : ∀ p o, p < wq.heap.size → w.cell? ⟨p, o, none⟩ = wq.cell? ⟨p, o, none⟩ := (fun p o h => hSw.cell (p := ⟨p, o, none⟩) h); clear hSw; go_simp; try with_reducible rfl)
            simp only [Act.put, List.setIfInBounds_toArray]
            clear cC lC
            have hb0 := hHeld
            clear hHeld
            revert hb0
            generalize wq.drew = V0
            intro hb0
            refine wpAnyH_ready (rs := [4, 9]) (by kernel_rfl) (by simp) (AllReadyH.cons rfl (fun K hK => ?q10) (AllReadyH.cons rfl (fun K hK => ?q11) AllReadyH.nil))
            case q10 =>
              go_simp
              have hb2 : Below wq.heap.size wq (V0.alloc (.cells #[] 3)) := hb0.trans (((Below.refl _ _).alloc (Nat.le_refl _) _).mono hb0.size)
              have hown2 : (V0.alloc (.cells #[] 3)).ownsRow wq.heap.size 3 1 (.slice (some ⟨V0.heap.size, 0, none⟩) 0 0) 0 (([] : List Int).map (Value.int .i64)) := World.ownsRow_made (base := wq.heap.size) (e := 3) (size := 1) V0 #[] 0 hb0.size (by unfold maxLen; omega) (by simp)
              refine hK.out _ _ hb2 (fun _ => ?_)
              clear hK K
              obtain ⟨g2, hge⟩ : ∃ b, b = V0.heap.size := ⟨_, rfl⟩
              rw [← hge] at hown2 ⊢
              clear hge hb0
              revert hb2 hown2
              generalize V0.alloc (.cells #[] 3) = V2
              intro hb2 hown2
              refine wpAnyH_ready (rs := [6, 9]) (by kernel_rfl) (by simp) (AllReadyH.cons rfl (fun K hK => ?q30) (AllReadyH.cons rfl (fun K hK => ?q31) AllReadyH.nil))
              case q30 =>
                refine sapp_ints rfl (.tmp 37) (.tmp 38) rfl wq.heap.size g2 0 0 [] rfl hown2 (some ⟨P, 0, none⟩) h.length cP o rfl (HPO.out.later hb2) (by omega) hb2.size ?_
                intro g4 cap4 V4 hown4 hgr4
                rw [Nat.zero_add, List.nil_append] at hown4
                rw [Nat.zero_add]
                have hb4 : Below wq.heap.size wq V4 := hb2.grown hgr4 hb2.size (fun q hq => by cases hq; exact (World.ownsRow.lt hown2 g2 rfl).1)
                refine hK.out _ _ hb4 (fun _ => ?_)
                clear hK K hown2 hgr4 hb2
                refine wpAnyH_ready (rs := [9]) (by kernel_rfl) (by simp) (AllReadyH.cons rfl (fun K hK => ?_) AllReadyH.nil)
                go_simp
                have hb5 : Below wq.heap.size wq (V4.alloc (.cells (boolr (List.replicate h.length false)) 4)) := hb4.trans (((Below.refl _ _).alloc (Nat.le_refl _) _).mono hb4.size)
                have hrow5 := RowO.new V4 h.length
                have hle5 : wq.heap.size ≤ V4.heap.size := hb4.size
                have hown5 := own_later hown4 ((Below.refl _ _).alloc (Nat.le_refl _) (.cells (boolr (List.replicate h.length false)) 4))
                refine hK.out _ _ hb5 (fun _ => ?_)
                clear hK K
                obtain ⟨S, hge⟩ : ∃ b, b = V4.heap.size := ⟨_, rfl⟩
                rw [← hge] at hrow5 hle5 ⊢
                clear hge hb4 hown4
                revert hb5 hrow5 hown5
                generalize V4.alloc (.cells (boolr (List.replicate h.length false)) 4) = V5
                intro hb5 hown5 hrow5
                refine wpAnyH_ready (rs := [10]) (by kernel_rfl) (by simp) (AllReadyH.cons rfl (fun K hK => ?_) AllReadyH.nil)
                go_simp
                have hPB := RowB.of_own hown5
                have hgl := (World.ownsRow.lt hown5 g4 rfl).1
                have hPS : g4 ≠ S := by
                  obtain ⟨_, hk⟩ := hPB
                  exact Blk.ne_ hk hrow5 (by decide)
                refine (HFN.out V5 g4 S cap4 hPS hgl hle5 hb5 hPB hrow5).mono ?_
                rintro e w5 ⟨b5, q5, u5, rfl, hP5, hS5, hl5, hon5, hy5, hn5⟩
                have hbd := hb5.trans (hon5.to_below hb5.size (fun j hj => by rcases hj with rfl | rfl; exact hgl; exact hle5))
                refine hK.out _ _ hbd (fun _ => ?_)
                clear hK K hb5 hown5 hrow5 hPB
                refine wpAnyH_take (i := 11) (v := ?_) rfl (by kernel_rfl) (by kernel_rfl) (by kernel_rfl) (fun _ _ _ h => h) (Or.inl ⟨by rfl, ?hy⟩) (by assumption) ?_
                case hy => (intro w hSw; have hcw : ∀ p o, p < wq.heap.size → w.cell? ⟨p, o, none⟩ = wq.cell? ⟨p, o, none⟩ := (fun p o h => hSw.cell (p := ⟨p, o, none⟩) h); clear hSw; go_simp; try with_reducible rfl)
                refine wpAnyH_take (i := 12) (v := ?_) rfl (by kernel_rfl) (by kernel_rfl) (by kernel_rfl) (fun _ _ _ h => h) (Or.inl ⟨by rfl, ?hy⟩) (by assumption) ?_
                case hy => (intro w hSw; have hcw : ∀ p o, p < wq.heap.size → w.cell? ⟨p, o, none⟩ = wq.cell? ⟨p, o, none⟩ := (fun p o h => hSw.cell (p := ⟨p, o, none⟩) h); clear hSw; go_simp; try with_reducible rfl)
                refine wpAnyH_take (i := 13) (v := ?_) rfl (by kernel_rfl) (by kernel_rfl) (by kernel_rfl) (fun _ _ _ h => h) (Or.inl ⟨by rfl, ?hy⟩) (by assumption) ?_
                case hy => (intro w hSw; have hcw : ∀ p o, p < wq.heap.size → w.cell? ⟨p, o, none⟩ = wq.cell? ⟨p, o, none⟩ := (fun p o h => hSw.cell (p := ⟨p, o, none⟩) h); clear hSw; go_simp; try with_reducible rfl)
                refine wpAnyH_take (i := 14) (v := ?_) rfl (by kernel_rfl) (by kernel_rfl) (by kernel_rfl) (fun _ _ _ h => h) (Or.inl ⟨by rfl, ?hy⟩) (by assumption) ?_
                case hy => (intro w hSw; have hcw : ∀ p o, p < wq.heap.size → w.cell? ⟨p, o, none⟩ = wq.cell? ⟨p, o, none⟩ := (fun p o h => hSw.cell (p := ⟨p, o, none⟩) h); clear hSw; go_simp; try with_reducible rfl)
                refine wpAnyH_take (i := 15) (v := ?_) rfl (by kernel_rfl) (by kernel_rfl) (by kernel_rfl) (fun _ _ _ h => h) (Or.inl ⟨by rfl, ?hy⟩) (by assumption) ?_
                case hy => (intro w hSw; have hcw : ∀ p o, p < wq.heap.size → w.cell? ⟨p, o, none⟩ = wq.cell? ⟨p, o, none⟩ := (fun p o h => hSw.cell (p := ⟨p, o, none⟩) h); clear hSw; go_simp; try with_reducible rfl)
                refine wpAnyH_take (i := 16) (v := ?_) rfl (by kernel_rfl) (by kernel_rfl) (by kernel_rfl) (fun _ _ _ h => h) (Or.inl ⟨by rfl, ?hy⟩) (by assumption) ?_
                case hy => (intro w hSw; have hcw : ∀ p o, p < wq.heap.size → w.cell? ⟨p, o, none⟩ = wq.cell? ⟨p, o, none⟩ := (fun p o h => hSw.cell (p := ⟨p, o, none⟩) h); clear hSw; go_simp; try with_reducible rfl)
                refine wpAnyH_take (i := 17) (v := ?_) rfl (by kernel_rfl) (by kernel_rfl) (by kernel_rfl) (fun _ _ _ h => h) (Or.inl ⟨by rfl, ?hy⟩) (by assumption) ?_
                case hy => (intro w hSw; have hcw : ∀ p o, p < wq.heap.size → w.cell? ⟨p, o, none⟩ = wq.cell? ⟨p, o, none⟩ := (fun p o h => hSw.cell (p := ⟨p, o, none⟩) h); clear hSw; go_simp; try with_reducible rfl)
                refine wpAnyH_done (by kernel_rfl) ?_ _
                go_wp2_with fail
                go_meet
                case rel => exact ⟨b5, q5, g4, cap4, rfl, rfl, hP5, hgl, fun e => HU.out.yes ((hy5 e).iff fun g => unseen_rep), fun e => HU.out.no rfl (hn5 e).2, hbd⟩
              case q31 =>
                go_simp
                have hb6 : Below wq.heap.size wq (V2.alloc (.cells (boolr (List.replicate h.length false)) 4)) := hb2.trans (((Below.refl _ _).alloc (Nat.le_refl _) _).mono hb2.size)
                have hrow6 := RowO.new V2 h.length
                have hle6 : wq.heap.size ≤ V2.heap.size := hb2.size
                have hown6 := own_later hown2 ((Below.refl _ _).alloc (Nat.le_refl _) (.cells (boolr (List.replicate h.length false)) 4))
                refine hK.out _ _ hb6 (fun _ => ?_)
                clear hK K
                obtain ⟨S, hge⟩ : ∃ b, b = V2.heap.size := ⟨_, rfl⟩
                rw [← hge] at hrow6 hle6 ⊢
                clear hge hb2 hown2
                revert hb6 hrow6 hown6
                generalize V2.alloc (.cells (boolr (List.replicate h.length false)) 4) = V6
                intro hb6 hown6 hrow6
                refine wpAnyH_ready (rs := [6]) (by kernel_rfl) (by simp) (AllReadyH.cons rfl (fun K hK => ?_) AllReadyH.nil)
                refine sapp_ints rfl (.tmp 37) (.tmp 38) rfl wq.heap.size g2 0 0 [] rfl hown6 (some ⟨P, 0, none⟩) h.length cP o rfl (HPO.out.later hb6) (by omega) hb6.size ?_
                intro g7 cap7 V7 hown7 hgr7
                rw [Nat.zero_add, List.nil_append] at hown7
                rw [Nat.zero_add]
                have hb7 : Below wq.heap.size wq V7 := hb6.grown hgr7 hb6.size (fun q hq => by cases hq; exact (World.ownsRow.lt hown6 g2 rfl).1)
                have hrow7 : RowO V7 S (List.replicate h.length false) := Blk.grown hrow6 hgr7 (fun e => by injection e with e; obtain ⟨_, hk⟩ := RowB.of_own hown6; exact (Blk.ne_ hrow6 hk (by decide)) e)
                refine hK.out _ _ hb7 (fun _ => ?_)
                clear hK K hown6 hgr7 hb6 hrow6
                refine wpAnyH_ready (rs := [10]) (by kernel_rfl) (by simp) (AllReadyH.cons rfl (fun K hK => ?_) AllReadyH.nil)
                go_simp
                have hPB := RowB.of_own hown7
                have hgl := (World.ownsRow.lt hown7 g7 rfl).1
                have hPS : g7 ≠ S := by
                  obtain ⟨_, hk⟩ := hPB
                  exact Blk.ne_ hk hrow7 (by decide)
                refine (HFN.out V7 g7 S cap7 hPS hgl hle6 hb7 hPB hrow7).mono ?_
                rintro e w5 ⟨b5, q5, u5, rfl, hP5, hS5, hl5, hon5, hy5, hn5⟩
                have hbd := hb7.trans (hon5.to_below hb7.size (fun j hj => by rcases hj with rfl | rfl; exact hgl; exact hle6))
                refine hK.out _ _ hbd (fun _ => ?_)
                clear hK K hb7 hown7 hrow7 hPB
                refine wpAnyH_take (i := 11) (v := ?_) rfl (by kernel_rfl) (by kernel_rfl) (by kernel_rfl) (fun _ _ _ h => h) (Or.inl ⟨by rfl, ?hy⟩) (by assumption) ?_
                case hy => (intro w hSw; have hcw : ∀ p o, p < wq.heap.size → w.cell? ⟨p, o, none⟩ = wq.cell? ⟨p, o, none⟩ := (fun p o h => hSw.cell (p := ⟨p, o, none⟩) h); clear hSw; go_simp; try with_reducible rfl)
                refine wpAnyH_take (i := 12) (v := ?_) rfl (by kernel_rfl) (by kernel_rfl) (by kernel_rfl) (fun _ _ _ h => h) (Or.inl ⟨by rfl, ?hy⟩) (by assumption) ?_
                case hy => (intro w hSw; have hcw : ∀ p o, p < wq.heap.size → w.cell? ⟨p, o, none⟩ = wq.cell? ⟨p, o, none⟩ := (fun p o h => hSw.cell (p := ⟨p, o, none⟩) h); clear hSw; go_simp; try with_reducible rfl)
                refine wpAnyH_take (i := 13) (v := ?_) rfl (by kernel_rfl) (by kernel_rfl) (by kernel_rfl) (fun _ _ _ h => h) (Or.inl ⟨by rfl, ?hy⟩) (by assumption) ?_
                case hy => (intro w hSw; have hcw : ∀ p o, p < wq.heap.size → w.cell? ⟨p, o, none⟩ = wq.cell? ⟨p, o, none⟩ := (fun p o h => hSw.cell (p := ⟨p, o, none⟩) h); clear hSw; go_simp; try with_reducible rfl)
                refine wpAnyH_take (i := 14) (v := ?_) rfl (by kernel_rfl) (by kernel_rfl) (by kernel_rfl) (fun _ _ _ h => h) (Or.inl ⟨by rfl, ?hy⟩) (by assumption) ?_
                case hy => (intro w hSw; have hcw : ∀ p o, p < wq.heap.size → w.cell? ⟨p, o, none⟩ = wq.cell? ⟨p, o, none⟩ := (fun p o h => hSw.cell (p := ⟨p, o, none⟩) h); clear hSw; go_simp; try with_reducible rfl)
                refine wpAnyH_take (i := 15) (v := ?_) rfl (by kernel_rfl) (by kernel_rfl) (by kernel_rfl) (fun _ _ _ h => h) (Or.inl ⟨by rfl, ?hy⟩) (by assumption) ?_
                case hy => (intro w hSw; have hcw : ∀ p o, p < wq.heap.size → w.cell? ⟨p, o, none⟩ = wq.cell? ⟨p, o, none⟩ := (fun p o h => hSw.cell (p := ⟨p, o, none⟩) h); clear hSw; go_simp; try with_reducible rfl)
                refine wpAnyH_take (i := 16) (v := ?_) rfl (by kernel_rfl) (by kernel_rfl) (by kernel_rfl) (fun _ _ _ h => h) (Or.inl ⟨by rfl, ?hy⟩) (by assumption) ?_
                case hy => (intro w hSw; have hcw : ∀ p o, p < wq.heap.size → w.cell? ⟨p, o, none⟩ = wq.cell? ⟨p, o, none⟩ := (fun p o h => hSw.cell (p := ⟨p, o, none⟩) h); clear hSw; go_simp; try with_reducible rfl)
                refine wpAnyH_take (i := 17) (v := ?_) rfl (by kernel_rfl) (by kernel_rfl) (by kernel_rfl) (fun _ _ _ h => h) (Or.inl ⟨by rfl, ?hy⟩) (by assumption) ?_
                case hy => (intro w hSw; have hcw : ∀ p o, p < wq.heap.size → w.cell? ⟨p, o, none⟩ = wq.cell? ⟨p, o, none⟩ := (fun p o h => hSw.cell (p := ⟨p, o, none⟩) h); clear hSw; go_simp; try with_reducible rfl)
                refine wpAnyH_done (by kernel_rfl) ?_ _
                go_wp2_with fail
                go_meet
                case rel => exact ⟨b5, q5, g7, cap7, rfl, rfl, hP5, hgl, fun e => HU.out.yes ((hy5 e).iff fun g => unseen_rep), fun e => HU.out.no rfl (hn5 e).2, hbd⟩
            case q11 =>
              go_simp
              have hb8 : Below wq.heap.size wq (V0.alloc (.cells (boolr (List.replicate h.length false)) 4)) := hb0.trans (((Below.refl _ _).alloc (Nat.le_refl _) _).mono hb0.size)
              have hrow8 := RowO.new V0 h.length
              have hle8 : wq.heap.size ≤ V0.heap.size := hb0.size
              refine hK.out _ _ hb8 (fun _ => ?_)
              clear hK K
              obtain ⟨S, hge⟩ : ∃ b, b = V0.heap.size := ⟨_, rfl⟩
              rw [← hge] at hrow8 hle8 ⊢
              clear hge hb0
              revert hb8 hrow8
              generalize V0.alloc (.cells (boolr (List.replicate h.length false)) 4) = V8
              intro hb8 hrow8
              refine wpAnyH_ready (rs := [4]) (by kernel_rfl) (by simp) (AllReadyH.cons rfl (fun K hK => ?_) AllReadyH.nil)
              go_simp
              have hb9 : Below wq.heap.size wq (V8.alloc (.cells #[] 3)) := hb8.trans (((Below.refl _ _).alloc (Nat.le_refl _) _).mono hb8.size)
              have hown9 : (V8.alloc (.cells #[] 3)).ownsRow wq.heap.size 3 1 (.slice (some ⟨V8.heap.size, 0, none⟩) 0 0) 0 (([] : List Int).map (Value.int .i64)) := World.ownsRow_made (base := wq.heap.size) (e := 3) (size := 1) V8 #[] 0 hb8.size (by unfold maxLen; omega) (by simp)
              have hrow9 := hrow8.later ((Below.refl _ _).alloc (Nat.le_refl _) (.cells #[] 3))
              refine hK.out _ _ hb9 (fun _ => ?_)
              clear hK K
              obtain ⟨g9, hge⟩ : ∃ b, b = V8.heap.size := ⟨_, rfl⟩
              rw [← hge] at hown9 ⊢
              clear hge hb8 hrow8
              revert hb9 hown9 hrow9
              generalize V8.alloc (.cells #[] 3) = V9
              intro hb9 hrow9 hown9
              refine wpAnyH_ready (rs := [6]) (by kernel_rfl) (by simp) (AllReadyH.cons rfl (fun K hK => ?_) AllReadyH.nil)
              refine sapp_ints rfl (.tmp 37) (.tmp 38) rfl wq.heap.size g9 0 0 [] rfl hown9 (some ⟨P, 0, none⟩) h.length cP o rfl (HPO.out.later hb9) (by omega) hb9.size ?_
              intro g10 cap10 V10 hown10 hgr10
              rw [Nat.zero_add, List.nil_append] at hown10
              rw [Nat.zero_add]
              have hb10 : Below wq.heap.size wq V10 := hb9.grown hgr10 hb9.size (fun q hq => by cases hq; exact (World.ownsRow.lt hown9 g9 rfl).1)
              have hrow10 : RowO V10 S (List.replicate h.length false) := Blk.grown hrow9 hgr10 (fun e => by injection e with e; obtain ⟨_, hk⟩ := RowB.of_own hown9; exact (Blk.ne_ hrow9 hk (by decide)) e)
              refine hK.out _ _ hb10 (fun _ => ?_)
              clear hK K hown9 hgr10 hb9 hrow9
              refine wpAnyH_ready (rs := [10]) (by kernel_rfl) (by simp) (AllReadyH.cons rfl (fun K hK => ?_) AllReadyH.nil)
              go_simp
              have hPB := RowB.of_own hown10
              have hgl := (World.ownsRow.lt hown10 g10 rfl).1
              have hPS : g10 ≠ S := by
                obtain ⟨_, hk⟩ := hPB
                exact Blk.ne_ hk hrow10 (by decide)
              refine (HFN.out V10 g10 S cap10 hPS hgl hle8 hb10 hPB hrow10).mono ?_
              rintro e w5 ⟨b5, q5, u5, rfl, hP5, hS5, hl5, hon5, hy5, hn5⟩
              have hbd := hb10.trans (hon5.to_below hb10.size (fun j hj => by rcases hj with rfl | rfl; exact hgl; exact hle8))
              refine hK.out _ _ hbd (fun _ => ?_)
              clear hK K hb10 hown10 hrow10 hPB
              refine wpAnyH_take (i := 11) (v := ?_) rfl (by kernel_rfl) (by kernel_rfl) (by kernel_rfl) (fun _ _ _ h => h) (Or.inl ⟨by rfl, ?hy⟩) (by assumption) ?_
              case hy => (intro w hSw; have hcw : ∀ p o, p < wq.heap.size → w.cell? ⟨p, o, none⟩ = wq.cell? ⟨p, o, none⟩ := (fun p o h => hSw.cell (p := ⟨p, o, none⟩) h); clear hSw; go_simp; try with_reducible rfl)
              refine wpAnyH_take (i := 12) (v := ?_) rfl (by kernel_rfl) (by kernel_rfl) (by kernel_rfl) (fun _ _ _ h => h) (Or.inl ⟨by rfl, ?hy⟩) (by assumption) ?_
              case hy => (intro w hSw; have hcw : ∀ p o, p < wq.heap.size → w.cell? ⟨p, o, none⟩ = wq.cell? ⟨p, o, none⟩ := (fun p o h => hSw.cell (p := ⟨p, o, none⟩) h); clear hSw; go_simp; try with_reducible rfl)
              refine wpAnyH_take (i := 13) (v := ?_) rfl (by kernel_rfl) (by kernel_rfl) (by kernel_rfl) (fun _ _ _ h => h) (Or.inl ⟨by rfl, ?hy⟩) (by assumption) ?_
              case hy => (intro w hSw; have hcw : ∀ p o, p < wq.heap.size → w.cell? ⟨p, o, none⟩ = wq.cell? ⟨p, o, none⟩ := (fun p o h => hSw.cell (p := ⟨p, o, none⟩) h); clear hSw; go_simp; try with_reducible rfl)
              refine wpAnyH_take (i := 14) (v := ?_) rfl (by kernel_rfl) (by kernel_rfl) (by kernel_rfl) (fun _ _ _ h => h) (Or.inl ⟨by rfl, ?hy⟩) (by assumption) ?_
              case hy => (intro w hSw; have hcw : ∀ p o, p < wq.heap.size → w.cell? ⟨p, o, none⟩ = wq.cell? ⟨p, o, none⟩ := (fun p o h => hSw.cell (p := ⟨p, o, none⟩) h); clear hSw; go_simp; try with_reducible rfl)
              refine wpAnyH_take (i := 15) (v := ?_) rfl (by kernel_rfl) (by kernel_rfl) (by kernel_rfl) (fun _ _ _ h => h) (Or.inl ⟨by rfl, ?hy⟩) (by assumption) ?_
              case hy => (intro w hSw; have hcw : ∀ p o, p < wq.heap.size → w.cell? ⟨p, o, none⟩ = wq.cell? ⟨p, o, none⟩ := (fun p o h => hSw.cell (p := ⟨p, o, none⟩) h); clear hSw; go_simp; try with_reducible rfl)
              refine wpAnyH_take (i := 16) (v := ?_) rfl (by kernel_rfl) (by kernel_rfl) (by kernel_rfl) (fun _ _ _ h => h) (Or.inl ⟨by rfl, ?hy⟩) (by assumption) ?_
              case hy => (intro w hSw; have hcw : ∀ p o, p < wq.heap.size → w.cell? ⟨p, o, none⟩ = wq.cell? ⟨p, o, none⟩ := (fun p o h => hSw.cell (p := ⟨p, o, none⟩) h); clear hSw; go_simp; try with_reducible rfl)
              refine wpAnyH_take (i := 17) (v := ?_) rfl (by kernel_rfl) (by kernel_rfl) (by kernel_rfl) (fun _ _ _ h => h) (Or.inl ⟨by rfl, ?hy⟩) (by assumption) ?_
              case hy => (intro w hSw; have hcw : ∀ p o, p < wq.heap.size → w.cell? ⟨p, o, none⟩ = wq.cell? ⟨p, o, none⟩ := (fun p o h => hSw.cell (p := ⟨p, o, none⟩) h); clear hSw; go_simp; try with_reducible rfl)
              refine wpAnyH_done (by kernel_rfl) ?_ _
              go_wp2_with fail
              go_meet
              case rel => exact ⟨b5, q5, g10, cap10, rfl, rfl, hP5, hgl, fun e => HU.out.yes ((hy5 e).iff fun g => unseen_rep), fun e => HU.out.no rfl (hn5 e).2, hbd⟩
          case rest =>
            obtain ⟨b, q, P', c', rfl, rfl, hP', hP'1, hY, hN, hbq⟩ := hcut
            have kC2 := kC.later hbq
            have hP2 := hP.later hbq
            have hb2 := hb.trans (hbq.mono hb.size)
            have hNP' : w.heap.size ≤ P' := Nat.le_trans hb.size hP'1
            clear HFN HPO kC hP hb hbq
            cases b with
            | true =>
              have HU2 : Hid (Upto (fitP s h lo hi) h.length (k + 1) q (n + 1)) := hY rfl
              clear hY hN HU hP2
              go_wp2_with fail
              go_roundw
              case rel => exact ⟨k + 1, n + 1, P', c', q, HK1.out, HK2.out, by go_num, by go_num, rfl, hP', hNP', HU2, kC2, hb2⟩
              case measure => simp [RowKit.intOf]; have := HK4.out; omega
            | false =>
              have HU2 : Hid (Upto (fitP s h lo hi) h.length (k + 1) o n) := hN rfl
              clear hY hN HU hP'
              go_wp2_with fail
              go_roundw
              case rel => exact ⟨k + 1, n, P, cP, o, HK1.out, HK3.out, by go_num, rfl, rfl, hP2, hNPk, HU2, kC2, hb2⟩
              case measure => simp [RowKit.intOf]; have := HK4.out; omega
        · obtain rfl : k = s.length := by omega
          have hd : decide ((s.length : Int) < (s.length : Int)) = false := decide_eq_false (by omega)
          go_wp2_with fail
          go_ret
          exact ⟨n, rfl, HU.out.mx.congr fun x g => ⟨fun ⟨a, b, r⟩ => ⟨trivial, b, r⟩, fun ⟨a, b, r⟩ => ⟨r.1, b, r⟩⟩, hnk, hb⟩
end Go.Proofs.Ytpklcjbdmikbdaa
namespace Go.Proofs.Ytpklcjbdmikbdaa
open Go.RowKit

/-- A list without element k. -/
def wout {α : Type} (l : List α) (k : Nat) : List α := l.take k ++ l.drop (k + 1)
theorem RowQ.rowI {w : World} {A : Option Addr} {n : Nat} {l : List Int} (h : RowQ w A n l) : RowI w A n l :=
  ⟨h.1, fun hn => by
    obtain ⟨g, q, e, hg, hc⟩ := h.2 hn
    exact ⟨_, e, hg, fun k v hk => by rw [Addr.add_lit]; exact hc k v hk⟩⟩
theorem RowQ.take {w : World} {A : Option Addr} {n m : Nat} {l : List Int} (h : RowQ w A n l) (hm : m ≤ n) : RowQ w A m (l.take m) :=
  ⟨by rw [List.length_take, h.1]; omega, fun h0 => by
    obtain ⟨g, q, e, hg, hc⟩ := h.2 (by omega)
    refine ⟨g, q, e, hg, fun k v hk => hc k v ?_⟩
    rw [List.getElem?_take] at hk
    split at hk
    · exact hk
    · cases hk⟩
theorem RowQ.drop {w : World} {g q n m : Nat} {l : List Int} (h : RowQ w (some ⟨g, q, none⟩) n l) : RowQ w (some ⟨g, q + m, none⟩) (n - m) (l.drop m) :=
  ⟨by rw [List.length_drop, h.1], fun h0 => by
    obtain ⟨g', q', e, hg, hc⟩ := h.2 (by omega)
    cases e
    refine ⟨g, q + m, rfl, hg, fun k v hk => ?_⟩
    rw [List.getElem?_drop] at hk
    rw [Nat.add_assoc]
    exact hc _ v hk⟩
theorem RowQ.none {w : World} {A : Option Addr} : RowQ w A 0 [] := ⟨rfl, fun h => absurd h (by omega)⟩
/-- What without returns. -/
def WoutR (l : List Int) (k n : Nat) (w : World) (e : Ending) (w' : World) : Prop :=
  ∃ R c', e = .returned (.slice (some ⟨R, 0, none⟩) (k + (n - (k + 1))) c') ∧ w'.ownsRow w.heap.size 3 1 (.slice (some ⟨R, 0, none⟩) (k + (n - (k + 1))) c') (k + (n - (k + 1))) ((wout l k).map (Value.int .i64)) ∧ Below w.heap.size w w'
set_option maxRecDepth 100000 in
set_option maxHeartbeats 8000000 in
theorem rwithout_any (A : Option Addr) (n c k : Nat) (l : List Int) (w : World) (rA : RowQ w A n l) (hc : n ≤ c) (hn : n ≤ 1000) (hk : k < n) :
    Calls Try.prog 61 #[.slice A n c, .int .i64 (k : Int)] w (WoutR l k n w) := by
  obtain ⟨g, q, rfl, _, _⟩ := rA.at_ hk
  obtain ⟨m, hm⟩ : ∃ m, m = n - (k + 1) := ⟨_, rfl⟩
  have HT := Lib.hid (rA.take (m := k) (by omega)).rowI
  have hki : (k : Int) ≤ (c : Int) := by omega
  have hkc : k ≤ c := by omega
  have hm2 : n - (k + 1) = m := hm.symm
  obtain ⟨j, hj⟩ : ∃ j, j = k + 1 := ⟨_, rfl⟩
  have hwj : IntKind.i64.wrap ((k : Int) + 1) = (j : Int) := by rw [IntKind.wrap_i64]; omega
  have hjn : (j : Int) ≤ (n : Int) := by omega
  have hj0 : (0 : Int) ≤ (j : Int) := by omega
  have HJ := Lib.hid hj
  unfold WoutR
  rw [hm2]
  clear hm2
  have HM := Lib.hid hm
  clear hm
  by_cases hcap : c = j
  · have hnj : n = j := by omega
    have hm0 : m = 0 := by rw [HM.out]; omega
    have HD : Hid (RowI w (some ⟨g, q, none⟩) m (l.drop (k + 1))) := by
      have : l.drop (k + 1) = [] := List.drop_eq_nil_of_le (by rw [rA.1]; omega)
      rw [this, hm0]
      exact RowQ.none.rowI
    subst hcap
    subst hnj
    subst hm0
    clear rA hj
    go_enter Try.func61, Try.ntmps61
    go_wp2_with fail
    refine wp_region_held_drew (S := fun V => Below w.heap.size w V) (by kernel_rfl) (Below.refl _ _).drew (fun hHeld => ?_)
    refine wpAnyH_take (i := 1) (v := ?_) rfl (by kernel_rfl) (by kernel_rfl) (by kernel_rfl) (fun _ _ _ h => h) (Or.inl ⟨by rfl, ?hy⟩) (by assumption) ?_
    case hy => (intro w hSw; clear hSw; go_simp; try with_reducible rfl)
    refine wpAnyH_take (i := 2) (v := ?_) rfl (by kernel_rfl) (by kernel_rfl) (by kernel_rfl) (fun _ _ _ h => h) (Or.inl ⟨by rfl, ?hy⟩) (by assumption) ?_
    case hy => (intro w hSw; clear hSw; go_simp; try with_reducible rfl)
    refine wpAnyH_take (i := 3) (v := ?_) rfl (by kernel_rfl) (by kernel_rfl) (by kernel_rfl) (fun _ _ _ h => h) (Or.inl ⟨by rfl, ?hy⟩) (by assumption) ?_
    case hy => (intro w hSw; clear hSw; go_simp; try with_reducible rfl)
    refine wpAnyH_take (i := 5) (v := ?_) rfl (by kernel_rfl) (by kernel_rfl) (by kernel_rfl) (fun _ _ _ h => h) (Or.inl ⟨by rfl, ?hy⟩) (by assumption) ?_
    case hy => (intro w hSw; clear hSw; go_simp; try with_reducible rfl)
    refine wpAnyH_take (i := 6) (v := ?_) rfl (by kernel_rfl) (by kernel_rfl) (by kernel_rfl) (fun _ _ _ h => h) (Or.inl ⟨by rfl, ?hy⟩) (by assumption) ?_
    case hy => (intro w hSw; clear hSw; go_simp; try with_reducible rfl)
    refine wpAnyH_take (i := 7) (v := ?_) rfl (by kernel_rfl) (by kernel_rfl) (by kernel_rfl) (fun _ _ _ h => h) (Or.inl ⟨by rfl, ?hy⟩) (by assumption) ?_
    case hy => (intro w hSw; clear hSw; go_simp; try with_reducible rfl)
    refine wpAnyH_take (i := 8) (v := ?_) rfl (by kernel_rfl) (by kernel_rfl) (by kernel_rfl) (fun _ _ _ h => h) (Or.inl ⟨by rfl, ?hy⟩) (by assumption) ?_
    case hy => (intro w hSw; clear hSw; go_simp; try with_reducible rfl)
    simp only [Act.put, List.setIfInBounds_toArray]
    have hb0 := hHeld
    clear hHeld
    revert hb0
    generalize w.drew = V0
    intro hb0
    refine wpAnyH_ready (rs := [0]) (by kernel_rfl) (by simp) (AllReadyH.cons rfl (fun K hK => ?_) AllReadyH.nil)
    go_simp
    have hb1 : Below w.heap.size w (V0.alloc (.cells #[] 3)) := hb0.trans (((Below.refl _ _).alloc (Nat.le_refl _) _).mono hb0.size)
    have hown1 : (V0.alloc (.cells #[] 3)).ownsRow w.heap.size 3 1 (.slice (some ⟨V0.heap.size, 0, none⟩) 0 0) 0 (([] : List Int).map (Value.int .i64)) := World.ownsRow_made (base := w.heap.size) (e := 3) (size := 1) V0 #[] 0 hb0.size (by unfold maxLen; omega) (by simp)
    refine hK.out _ _ hb1 (fun _ => ?_)
    clear hK K hb0
    refine wpAnyH_ready (rs := [4]) (by kernel_rfl) (by simp) (AllReadyH.cons rfl (fun K hK => ?_) AllReadyH.nil)
    refine sapp_ints rfl (.tmp 5) (.tmp 8) rfl w.heap.size V0.heap.size 0 0 [] rfl hown1 (some ⟨g, q, none⟩) k _ (l.take k) rfl (HT.out.later hb1) (by omega) hb1.size ?_
    intro g2 cap2 V2 hown2 hgr2
    have hb2 : Below w.heap.size w V2 := hb1.grown hgr2 hb1.size (fun q hq => by cases hq; exact (World.ownsRow.lt hown1 _ rfl).1)
    rw [Nat.zero_add, List.nil_append] at hown2
    rw [Nat.zero_add]
    refine hK.out _ _ hb2 (fun _ => ?_)
    clear hK K hown1 hgr2 hb1
    refine wpAnyH_ready (rs := [9]) (by kernel_rfl) (by simp) (AllReadyH.cons rfl (fun K hK => ?_) AllReadyH.nil)
    refine sapp_ints rfl (.tmp 9) (.tmp 13) rfl w.heap.size g2 k cap2 (l.take k) rfl hown2 (some ⟨g, q, none⟩) 0 _ (l.drop (k + 1)) rfl (HD.out.later hb2) (by omega) hb2.size ?_
    intro g3 cap3 V3 hown3 hgr3
    have hb3 : Below w.heap.size w V3 := hb2.grown hgr3 hb2.size (fun q hq => by cases hq; exact (World.ownsRow.lt hown2 _ rfl).1)
    refine hK.out _ _ hb3 (fun _ => ?_)
    clear hK K hown2 hgr3 hb2
    refine wpAnyH_take (i := 10) (v := ?_) rfl (by kernel_rfl) (by kernel_rfl) (by kernel_rfl) (fun _ _ _ h => h) (Or.inl ⟨by rfl, ?hy⟩) (by assumption) ?_
    case hy => (intro w hSw; clear hSw; go_simp; try with_reducible rfl)
    refine wpAnyH_done (by kernel_rfl) ?_ _
    go_wp2_with fail
    go_ret
    exact ⟨g3, cap3, rfl, hown3, hb3⟩
  · have HD : Hid (RowI w (some ⟨g, q + j, none⟩) m (l.drop (k + 1))) := by
      have := (rA.drop (m := k + 1)).rowI
      rw [HM.out, HJ.out]
      exact this
    have hnm : n - j = m := by rw [HM.out, HJ.out]
    have hmn : k + m ≤ 1000 := by rw [HM.out]; omega
    clear rA hj
    go_enter Try.func61, Try.ntmps61
    go_wp2_with fail
    refine wp_region_held_drew (S := fun V => Below w.heap.size w V) (by kernel_rfl) (Below.refl _ _).drew (fun hHeld => ?_)
    refine wpAnyH_take (i := 1) (v := ?_) rfl (by kernel_rfl) (by kernel_rfl) (by kernel_rfl) (fun _ _ _ h => h) (Or.inl ⟨by rfl, ?hy⟩) (by assumption) ?_
    case hy => (intro w hSw; clear hSw; go_simp; try with_reducible rfl)
    refine wpAnyH_take (i := 2) (v := ?_) rfl (by kernel_rfl) (by kernel_rfl) (by kernel_rfl) (fun _ _ _ h => h) (Or.inl ⟨by rfl, ?hy⟩) (by assumption) ?_
    case hy => (intro w hSw; clear hSw; go_simp; try with_reducible rfl)
    refine wpAnyH_take (i := 3) (v := ?_) rfl (by kernel_rfl) (by kernel_rfl) (by kernel_rfl) (fun _ _ _ h => h) (Or.inl ⟨by rfl, ?hy⟩) (by assumption) ?_
    case hy => (intro w hSw; clear hSw; go_simp; try with_reducible rfl)
    refine wpAnyH_take (i := 5) (v := ?_) rfl (by kernel_rfl) (by kernel_rfl) (by kernel_rfl) (fun _ _ _ h => h) (Or.inl ⟨by rfl, ?hy⟩) (by assumption) ?_
    case hy => (intro w hSw; clear hSw; go_simp; try with_reducible rfl)
    refine wpAnyH_take (i := 6) (v := ?_) rfl (by kernel_rfl) (by kernel_rfl) (by kernel_rfl) (fun _ _ _ h => h) (Or.inl ⟨by rfl, ?hy⟩) (by assumption) ?_
    case hy => (intro w hSw; clear hSw; go_simp; try with_reducible rfl)
    refine wpAnyH_take (i := 7) (v := ?_) rfl (by kernel_rfl) (by kernel_rfl) (by kernel_rfl) (fun _ _ _ h => h) (Or.inl ⟨by rfl, ?hy⟩) (by assumption) ?_
    case hy => (intro w hSw; clear hSw; go_simp; try with_reducible rfl)
    refine wpAnyH_take (i := 8) (v := ?_) rfl (by kernel_rfl) (by kernel_rfl) (by kernel_rfl) (fun _ _ _ h => h) (Or.inl ⟨by rfl, ?hy⟩) (by assumption) ?_
    case hy => (intro w hSw; clear hSw; go_simp; try with_reducible rfl)
    simp only [Act.put, List.setIfInBounds_toArray]
    have hb0 := hHeld
    clear hHeld
    revert hb0
    generalize w.drew = V0
    intro hb0
    refine wpAnyH_ready (rs := [0]) (by kernel_rfl) (by simp) (AllReadyH.cons rfl (fun K hK => ?_) AllReadyH.nil)
    go_simp
    have hb1 : Below w.heap.size w (V0.alloc (.cells #[] 3)) := hb0.trans (((Below.refl _ _).alloc (Nat.le_refl _) _).mono hb0.size)
    have hown1 : (V0.alloc (.cells #[] 3)).ownsRow w.heap.size 3 1 (.slice (some ⟨V0.heap.size, 0, none⟩) 0 0) 0 (([] : List Int).map (Value.int .i64)) := World.ownsRow_made (base := w.heap.size) (e := 3) (size := 1) V0 #[] 0 hb0.size (by unfold maxLen; omega) (by simp)
    refine hK.out _ _ hb1 (fun _ => ?_)
    clear hK K hb0
    refine wpAnyH_ready (rs := [4]) (by kernel_rfl) (by simp) (AllReadyH.cons rfl (fun K hK => ?_) AllReadyH.nil)
    refine sapp_ints rfl (.tmp 5) (.tmp 8) rfl w.heap.size V0.heap.size 0 0 [] rfl hown1 (some ⟨g, q, none⟩) k _ (l.take k) rfl (HT.out.later hb1) (by omega) hb1.size ?_
    intro g2 cap2 V2 hown2 hgr2
    have hb2 : Below w.heap.size w V2 := hb1.grown hgr2 hb1.size (fun q hq => by cases hq; exact (World.ownsRow.lt hown1 _ rfl).1)
    rw [Nat.zero_add, List.nil_append] at hown2
    rw [Nat.zero_add]
    refine hK.out _ _ hb2 (fun _ => ?_)
    clear hK K hown1 hgr2 hb1
    refine wpAnyH_ready (rs := [9]) (by kernel_rfl) (by simp) (AllReadyH.cons rfl (fun K hK => ?_) AllReadyH.nil)
    refine sapp_ints rfl (.tmp 9) (.tmp 13) rfl w.heap.size g2 k cap2 (l.take k) rfl hown2 (some ⟨g, q + j, none⟩) m _ (l.drop (k + 1)) rfl (HD.out.later hb2) (by omega) hb2.size ?_
    intro g3 cap3 V3 hown3 hgr3
    have hb3 : Below w.heap.size w V3 := hb2.grown hgr3 hb2.size (fun q hq => by cases hq; exact (World.ownsRow.lt hown2 _ rfl).1)
    refine hK.out _ _ hb3 (fun _ => ?_)
    clear hK K hown2 hgr3 hb2
    refine wpAnyH_take (i := 10) (v := ?_) rfl (by kernel_rfl) (by kernel_rfl) (by kernel_rfl) (fun _ _ _ h => h) (Or.inl ⟨by rfl, ?hy⟩) (by assumption) ?_
    case hy => (intro w hSw; clear hSw; go_simp; try with_reducible rfl)
    refine wpAnyH_done (by kernel_rfl) ?_ _
    go_wp2_with fail
    go_ret
    exact ⟨g3, cap3, rfl, hown3, hb3⟩
end Go.Proofs.Ytpklcjbdmikbdaa
namespace Go.Proofs.Ytpklcjbdmikbdaa

theorem Mat.map_ {F F' : Nat → Nat → Prop} {A B A' B' : Nat → Prop} {M : List (Nat × Nat)} (h : Mat F A B M) (f g : Nat → Nat) (hf : ∀ x y, A x → A y → f x = f y → x = y) (hg : ∀ x y, B x → B y → g x = g y → x = y)
    (hok : ∀ x k, A x → B k → F x k → A' (f x) ∧ B' (g k) ∧ F' (f x) (g k)) : Mat F' A' B' (M.map fun e => (f e.1, g e.2)) := by
  refine ⟨?_, ?_, fun e he => ?_⟩
  · have : (M.map fun e => (f e.1, g e.2)).map Prod.fst = (M.map Prod.fst).map f := by simp
    rw [this]
    refine nodup_of_inj h.one fun a ha b hb e => ?_
    obtain ⟨p, hp, rfl⟩ := List.mem_map.1 ha
    obtain ⟨q, hq, rfl⟩ := List.mem_map.1 hb
    exact hf _ _ (h.ok p hp).1 (h.ok q hq).1 e
  · have : (M.map fun e => (f e.1, g e.2)).map Prod.snd = (M.map Prod.snd).map g := by simp
    rw [this]
    refine nodup_of_inj h.two fun a ha b hb e => ?_
    obtain ⟨p, hp, rfl⟩ := List.mem_map.1 ha
    obtain ⟨q, hq, rfl⟩ := List.mem_map.1 hb
    exact hg _ _ (h.ok p hp).2.1 (h.ok q hq).2.1 e
  · obtain ⟨p, hp, rfl⟩ := List.mem_map.1 he
    have := h.ok p hp
    exact hok _ _ this.1 this.2.1 this.2.2
/-- The holes of some numbers. -/
def hol (h : List Int) (R : List Nat) : List Int := R.map fun k => h.getD k 0
theorem hol_len (h : List Int) (R : List Nat) : (hol h R).length = R.length := by unfold hol; simp
theorem hol_at {h : List Int} {R : List Nat} {j k : Nat} (hj : R[j]? = some k) : (hol h R).getD j 0 = h.getD k 0 := by
  unfold hol
  rw [List.getD_eq_getElem?_getD, List.getElem?_map, hj]
  rfl
theorem wout_map {α β : Type} (f : α → β) (l : List α) (k : Nat) : wout (l.map f) k = (wout l k).map f := by
  unfold wout
  rw [List.map_append, List.map_take, List.map_drop]
theorem wout_sub {α : Type} (l : List α) (k : Nat) : (wout l k).Sublist l := by
  unfold wout
  rw [← List.eraseIdx_eq_take_drop_succ]
  exact List.eraseIdx_sublist _ _
theorem wout_len {α : Type} (l : List α) {k : Nat} (hk : k < l.length) : (wout l k).length = l.length - 1 := by
  unfold wout
  rw [← List.eraseIdx_eq_take_drop_succ, List.length_eraseIdx_of_lt hk]
theorem wout_mem {l : List Nat} (hn : l.Nodup) {k v : Nat} (hk : l[k]? = some v) (x : Nat) : x ∈ wout l k ↔ x ∈ l ∧ x ≠ v := by
  have hkl : k < l.length := (List.getElem?_eq_some_iff.1 hk).1
  have e : l = l.take k ++ v :: l.drop (k + 1) := by
    have := List.drop_eq_getElem_cons hkl
    rw [List.getElem?_eq_getElem hkl] at hk
    rw [← Option.some.inj hk, ← this, List.take_append_drop]
  unfold wout
  constructor
  · intro h
    refine ⟨?_, ?_⟩
    · rw [e]
      rcases List.mem_append.1 h with h | h
      · exact List.mem_append_left _ h
      · exact List.mem_append_right _ (List.mem_cons_of_mem _ h)
    · rintro rfl
      rw [e, List.nodup_append] at hn
      rcases List.mem_append.1 h with h | h
      · exact hn.2.2 x h x (by simp) rfl
      · exact (List.nodup_cons.1 hn.2.1).1 h
  · rintro ⟨h1, h2⟩
    rw [e] at h1
    rcases List.mem_append.1 h1 with h | h
    · exact List.mem_append_left _ h
    · rcases List.mem_cons.1 h with h | h
      · exact absurd h h2
      · exact List.mem_append_right _ h
theorem mx_sub {s h : List Int} {lo hi : Int} {d nn : Nat} {R : List Nat} (hR : R.Nodup) (hlt : ∀ k ∈ R, k < h.length) (hm : Mx (fitP (s.drop d) (hol h R) lo hi) (fun _ => True) (· < (hol h R).length) nn) : Mx (fitP s h lo hi) (fun x => d ≤ x) (· ∈ R) nn := by
  rw [hol_len] at hm
  have hs : ∀ x, (s.drop d).getD x 0 = s.getD (d + x) 0 := fun x => by rw [List.getD_eq_getElem?_getD, List.getElem?_drop, List.getD_eq_getElem?_getD]
  have hget : ∀ j, j < R.length → R[j]? = some (R.getD j 0) := fun j hj => by rw [List.getD_eq_getElem?_getD, List.getElem?_eq_getElem hj]; rfl
  constructor
  · obtain ⟨⟨M, m1, m2⟩, _⟩ := hm
    refine ⟨_, m1.map_ (fun x => d + x) (fun j => R.getD j 0) (fun x y _ _ e => by simp at e; omega) (fun x y hx hy e => ?_) (fun x k _ hk hF => ?_), by rw [List.length_map, m2]⟩
    · have h1 := hget x hx
      have h2 := hget y hy
      have e : R.getD x 0 = R.getD y 0 := e
      rw [e] at h1
      exact (List.getElem?_inj hx hR).1 (h1.trans h2.symm)
    · have h1 := hget k hk
      have h2 := List.mem_of_getElem? h1
      unfold fitP at hF ⊢
      rw [hs, hol_at h1, List.length_drop] at hF
      exact ⟨Nat.le_add_right _ _, h2, by omega, hlt _ h2, hF.2.2⟩
  · intro M hM
    have := hm.2 _ (hM.map_ (F' := fitP (s.drop d) (hol h R) lo hi) (A' := fun _ => True) (B' := (· < R.length)) (fun x => x - d) (fun k => R.idxOf k) (fun x y (hx : d ≤ x) (hy : d ≤ y) (e : x - d = y - d) => by omega) (fun x y hx hy e => ?_) (fun x k hx hk hF => ?_))
    · rwa [List.length_map] at this
    · have h1 := List.idxOf_lt_length_iff.2 hx
      have h2 := List.idxOf_lt_length_iff.2 hy
      have h3 := List.getElem_idxOf h1
      have h4 := List.getElem_idxOf h2
      rw [← h3, ← h4]
      congr 1
    · have h1 := List.idxOf_lt_length_iff.2 hk
      have h3 := List.getElem_idxOf h1
      have h4 : R[R.idxOf k]? = some k := by rw [List.getElem?_eq_getElem h1, h3]
      refine ⟨trivial, h1, ?_⟩
      unfold fitP at hF ⊢
      rw [hs, hol_at h4, List.length_drop, hol_len, show d + (x - d) = x by omega]
      exact ⟨by omega, h1, hF.2.2⟩
/-- What the document's pairing knows ahead of shaft i: the numbers that are left. -/
structure PrI (s h : List Int) (lo hi : Int) (n i : Nat) (R : List Nat) (nd : Nat) (tt : List Int) : Prop where
  up : R.Pairwise (· < ·)
  lt : ∀ k ∈ R, k < h.length
  pt : PairTo (fitP s h lo hi) h.length n i (· ∈ R) nd tt
section
variable {s h : List Int} {lo hi : Int} {n i nd k j v : Nat} {R : List Nat} {tt : List Int}
theorem PrI.nd_ (p : PrI s h lo hi n i R nd tt) : R.Nodup := p.up.imp (fun h => Nat.ne_of_lt h)
theorem PrI.first : PrI s h lo hi n 0 (List.range h.length) n [] := ⟨List.pairwise_lt_range, fun _ hk => List.mem_range.1 hk, .first _ fun _ => List.mem_range⟩
/-- The first k of the numbers left do not serve. -/
def PrNo (s h : List Int) (lo hi : Int) (i : Nat) (R : List Nat) (nd k : Nat) : Prop := ∀ j v, j < k → R[j]? = some v → ¬ Cand (fitP s h lo hi) i (· ∈ R) nd v
theorem PrNo.zero : PrNo s h lo hi i R nd 0 := fun j v hj => by omega
theorem PrNo.next (q : PrNo s h lo hi i R nd k) (hv : R[k]? = some v) (hc : ¬ Cand (fitP s h lo hi) i (· ∈ R) nd v) : PrNo s h lo hi i R nd (k + 1) := fun j u hj hu => by
  rcases Nat.lt_or_ge j k with h1 | h1
  · exact q j u h1 hu
  · obtain rfl : j = k := by omega
    rw [hv] at hu
    rw [← Option.some.inj hu]
    exact hc
theorem PrI.cand (p : PrI s h lo hi n i R nd tt) (hv : R[k]? = some v) {nn : Nat} (hm : Mx (fitP (s.drop (i + 1)) (hol h (wout R k)) lo hi) (fun _ => True) (· < (hol h (wout R k)).length) nn) (hF : fitP s h lo hi i v) :
    Cand (fitP s h lo hi) i (· ∈ R) nd v ↔ (nn : Int) = (nd : Int) - 1 := by
  have h1 := mx_sub ((wout_sub R k).nodup p.nd_) (fun x hx => p.lt x ((wout_sub R k).subset hx)) hm
  have h2 : Mx (fitP s h lo hi) (fun x => i + 1 ≤ x) (fun h => h ∈ R ∧ h ≠ v) nn := h1.congr fun x g => by rw [wout_mem p.nd_ hv]
  constructor
  · rintro ⟨_, _, h3, h4⟩
    have := h2.uniq h4
    omega
  · intro h3
    have h4 : nn = nd - 1 := by omega
    exact ⟨List.mem_of_getElem? hv, hF, by omega, by rw [← h4]; exact h2⟩
theorem PrI.hit (p : PrI s h lo hi n i R nd tt) (q : PrNo s h lo hi i R nd k) (hv : R[k]? = some v) (hc : Cand (fitP s h lo hi) i (· ∈ R) nd v) : PrI s h lo hi n (i + 1) (wout R k) (nd - 1) (tt ++ [(v : Int)]) := by
  refine ⟨p.up.sublist (wout_sub R k), fun x hx => p.lt x ((wout_sub R k).subset hx), .hit p.pt hc (fun k' hk' hc' => ?_) (fun x => wout_mem p.nd_ hv x)⟩
  obtain ⟨j, hj⟩ := List.getElem?_of_mem hc'.1
  refine q j k' ?_ hj hc'
  obtain ⟨l1, e1⟩ := List.getElem?_eq_some_iff.1 hj
  obtain ⟨l2, e2⟩ := List.getElem?_eq_some_iff.1 hv
  rcases Nat.lt_trichotomy j k with h1 | h1 | h1
  · exact h1
  · subst h1
    omega
  · have := List.pairwise_iff_getElem.1 p.up k j l2 l1 h1
    omega
theorem PrI.miss (p : PrI s h lo hi n i R nd tt) (q : PrNo s h lo hi i R nd R.length) : PrI s h lo hi n (i + 1) R nd (tt ++ [-1]) :=
  ⟨p.up, p.lt, .miss p.pt fun k hc => by
    obtain ⟨j, hj⟩ := List.getElem?_of_mem hc.1
    exact q j k (List.getElem?_eq_some_iff.1 hj).1 hj hc⟩
end
end Go.Proofs.Ytpklcjbdmikbdaa
namespace Go.Proofs.Ytpklcjbdmikbdaa
open Go.RowKit

theorem app_intsD (w : World) {ops : Array Oper} {rest : List Oper} {o : Oper} {a : Act} {Q : Exit → Act → World → Prop} (hgd : o.guard = none) (s x : Operand)
    (ho : o.op = .call { callee := .builtin .append, args := #[s, x], argTypes := #[23, 23] }) (base g n c : Nat) (xs : List Int) (hs : a.eval s = .slice (some ⟨g, 0, none⟩) n c) (hown : w.ownsRow base 3 1 (.slice (some ⟨g, 0, none⟩) n c) n (xs.map (Value.int .i64)))
    (ao : Option Addr) (m d : Nat) (l : List Int) (hx : a.eval x = .slice ao m d) (hr : RowI w ao m l) (hn : n + m ≤ 100000) (hbase : base ≤ w.heap.size)
    (h : ∀ g' cap w', w'.ownsRow base 3 1 (.slice (some ⟨g', 0, none⟩) (n + m) cap) (n + m) ((xs ++ l).map (Value.int .i64)) → w.grownBy w' (some g) → (g' = g ∨ g' = w.heap.size) → wpList Try.prog ops Q rest (a.put o.dst (.slice (some ⟨g', 0, none⟩) (n + m) cap)) w') : wpList Try.prog ops Q (o :: rest) a w := by
  obtain ⟨i0, hi, hz0, hz1, hz2⟩ := info_parts info3
  rcases Nat.eq_zero_or_pos m with z | z
  · subst z
    have hl : l = [] := List.eq_nil_of_length_eq_zero hr.1
    subst hl
    have hsrc : Src Try.prog i0.size 23 (.slice ao 0 d) 0 [] w := by
      cases ao with
      | none => exact Src.ofNil w Try.underlying23 d
      | some ad => exact Src.ofSlice w Try.underlying23 ad 0 d [] (by simp) (by simp) (by simp)
    have hle : n ≤ c := by
      rcases hown.2 with ⟨h1, _⟩ | ⟨g', cap, cur, h1, _, _, h2, _⟩
      · simp at h1
      · simp at h1; omega
    have hrun := run_append_nothing (P := Try.prog) w 23 23 o.type 3 i0 Try.underlying23 hi (some ⟨g, 0, none⟩) n c hle _ hsrc
    refine wpList_plain hgd fun K hK => ?_
    unfold Oper.wp
    simp [execOp, ho, resolve, invoke, builtin, hs, hx, hrun, Result.andThen]
    exact hK _ _ (h g c w (by simpa using hown) (World.grownBy.refl _ _) (.inl rfl))
  · obtain ⟨ad, e, _, _⟩ := hr.2 z
    subst e
    refine wpList_append_lies w hgd s x 23 ho base 3 i0 (.int .i64 0) 1 8 Try.underlying23 hi hz0 hz1 hz2 rfl (by decide) _ n _ hs hown ad m d (l.map (Value.int .i64)) hx (by rw [List.length_map, hr.1]; omega) (rowI_news hr z) (ints_one _) z (by unfold maxLen; omega) (by omega) hbase _ rfl ?_
    intro g' cap w' hown' hgr hat _
    refine h g' cap w' (by rw [List.map_append]; exact hown') hgr ?_
    rcases hat with e | e
    · exact .inl (by simpa [Value.ownBlock] using e.symm)
    · exact .inr e
section
variable {T : Nat → Prop} {a b c : World} {g : Nat}
theorem Only.grown (h : Only T a b) (hg : b.grownBy c (some g)) (hT : T g ∨ a.heap.size ≤ g) : Only T a c :=
  ⟨hg.os.trans h.os, hg.tape.trans h.tape, hg.output.trans h.output, Nat.le_trans h.size hg.size, fun i hi hn => (hg.block i (Nat.lt_of_lt_of_le hi h.size) (fun e => by
    injection e with e
    rcases hT with hT | hT
    · exact hn (e ▸ hT)
    · omega)).trans (h.block i hi hn)⟩
theorem Only.grownBy (h : Only (fun x => x = g) a b) : a.grownBy b (some g) := ⟨h.os, h.tape, h.output, h.size, fun i hi hn => h.block i hi (fun e => hn (by rw [e]))⟩
theorem Only.of_grown (h : a.grownBy b (some g)) : Only (fun x => x = g) a b := ⟨h.os, h.tape, h.output, h.size, fun i hi hn => h.block i hi (fun e => hn (by injection e))⟩
end
theorem region_held_var {P : Program} {ops : Array Oper} {Q : Exit → Act → World → Prop} {S : World → Prop} {id : Nat} {a : Act} {w : World} (hm : P.follows .mixedOrders = true) (hS : S w.drew)
    (h : ∀ V, V = w.drew → S V → wpAnyH P .any ops Q S ops.size (Array.replicate ops.size false) a V) : (Code.region id ops true).wp P Q a w := wp_region_held_drew hm hS (h _ rfl)
theorem own_cap {w : World} {base g n c : Nat} {l : List Int} (h : w.ownsRow base 3 1 (.slice (some ⟨g, 0, none⟩) n c) n (l.map (Value.int .i64))) : n ≤ c := by
  rcases h.2 with ⟨h1, _⟩ | ⟨g', cap, cur, h1, _, _, h2, _⟩
  · simp at h1
  · simp at h1; omega
/-- The numbers as integers. -/
def ofN (R : List Nat) : List Int := R.map fun (k : Nat) => (k : Int)
theorem ofN_len (R : List Nat) : (ofN R).length = R.length := by unfold ofN; simp
theorem ofN_at {R : List Nat} {j k : Nat} (hj : R[j]? = some k) : (ofN R).getD j 0 = (k : Int) := by
  unfold ofN
  rw [List.getD_eq_getElem?_getD, List.getElem?_map, hj]
  rfl
theorem ofN_succ (k : Nat) : ofN (List.range (k + 1)) = ofN (List.range k) ++ [(k : Int)] := by unfold ofN; rw [List.range_succ, List.map_append]; rfl
/-- What without returns, its length by another name. -/
def WoutL (l : List Int) (L : Nat) (w : World) (e : Ending) (w' : World) : Prop :=
  ∃ R c', e = .returned (.slice (some ⟨R, 0, none⟩) L c') ∧ RowQ w' (some ⟨R, 0, none⟩) L l ∧ w.heap.size ≤ R ∧ L ≤ c' ∧ Below w.heap.size w w'
theorem rwithout_len (A : Option Addr) (n c k L : Nat) (l : List Int) (w : World) (rA : RowQ w A n l) (hc : n ≤ c) (hn : n ≤ 1000) (hk : k < n) (hL : L = n - 1) : Calls Try.prog 61 #[.slice A n c, .int .i64 (k : Int)] w (WoutL (wout l k) L w) := by
  have h := rwithout_any A n c k l w rA hc hn hk
  obtain rfl : L = k + (n - (k + 1)) := by omega
  refine h.mono ?_
  rintro e w' ⟨R, c', h1, h2, h3⟩
  exact ⟨R, c', h1, (own_rowH h2).rowQ, (World.ownsRow.lt h2 _ rfl).1, own_cap h2, h3⟩
/-- What lies in memory ahead of shaft k. -/
structure PrW (N : Nat) (w0 : World) (s h : List Int) (lo hi : Int) (n k nd go co cl cn : Nat) (AL AN : Option Addr) (R : List Nat) (tt : List Int) (wr : World) : Prop where
  le : k ≤ s.length
  own : wr.ownsRow N 3 1 (.slice (some ⟨go, 0, none⟩) k co) k (tt.map (Value.int .i64))
  rl : RowQ wr AL R.length (hol h R)
  lcl : R.length ≤ cl
  rn : RowQ wr AN R.length (ofN R)
  lcn : R.length ≤ cn
  fl : ∀ p, 0 < R.length → AL = some p → p.block ≠ go
  fn : ∀ p, 0 < R.length → AN = some p → p.block ≠ go
  inv : PrI s h lo hi n k R nd tt
  box : Blk wr N 26 #[.int .i64 lo, .int .i64 hi]
  bel : Below N w0 wr
  low : N ≤ wr.heap.size
  gt : N < go
section
variable {N : Nat} {w0 wr w' : World} {s h : List Int} {lo hi : Int} {n k nd go co cl cn : Nat} {AL AN : Option Addr} {R : List Nat} {tt : List Int}
theorem PrW.later (p : PrW N w0 s h lo hi n k nd go co cl cn AL AN R tt wr) (hb : Below wr.heap.size wr w') : PrW N w0 s h lo hi n k nd go co cl cn AL AN R tt w' :=
  ⟨p.le, own_later p.own hb, p.rl.later hb, p.lcl, p.rn.later hb, p.lcn, p.fl, p.fn, p.inv, p.box.later hb, p.bel.trans (hb.mono p.low), Nat.le_trans p.low hb.size, p.gt⟩
/-- The hole of shaft k is known: it is appended. -/
theorem PrW.push (p : PrW N w0 s h lo hi n k nd go co cl cn AL AN R tt wr) {v : Int} {g' c' nd' cl' cn' : Nat} {AL' AN' : Option Addr} {R' : List Nat} (hk : k + 1 ≤ s.length) (hown : w'.ownsRow N 3 1 (.slice (some ⟨g', 0, none⟩) (k + 1) c') (k + 1) ((tt ++ [v]).map (Value.int .i64))) (hgr : wr.grownBy w' (some go)) (hat : g' = go ∨ g' = wr.heap.size)
    (rl : RowQ wr AL' R'.length (hol h R')) (lcl : R'.length ≤ cl') (rn : RowQ wr AN' R'.length (ofN R')) (lcn : R'.length ≤ cn') (fl : ∀ p, 0 < R'.length → AL' = some p → p.block ≠ go) (fn : ∀ p, 0 < R'.length → AN' = some p → p.block ≠ go) (inv : PrI s h lo hi n (k + 1) R' nd' (tt ++ [v])) :
    PrW N w0 s h lo hi n (k + 1) nd' g' c' cl' cn' AL' AN' R' (tt ++ [v]) w' := by
  have hgo := (World.ownsRow.lt p.own go rfl).2
  have hO := Only.of_grown hgr
  refine ⟨hk, hown, hO.rowQ rl fl, lcl, hO.rowQ rn fn, lcn, fun q h0 e => ?_, fun q h0 e => ?_, inv, hO.blk p.box (fun e => by have := p.gt; omega), p.bel.trans (hO.to_below p.low fun x hx => by have := p.gt; omega), Nat.le_trans p.low hgr.size, by have := p.gt; have := p.low; omega⟩
  · have h1 := rl.lt h0 e
    have h2 := fl q h0 e
    rcases hat with e | e <;> omega
  · have h1 := rn.lt h0 e
    have h2 := fn q h0 e
    rcases hat with e | e <;> omega
theorem PrW.nd_le (p : PrW N w0 s h lo hi n k nd go co cl cn AL AN R tt wr) : nd ≤ n := by have := p.inv.pt.cnt_; omega
end
/-- What the document's pairing returns. -/
def RPairR (s h : List Int) (lo hi : Int) (w : World) (e : Ending) (w' : World) : Prop :=
  ∃ R c n tt, e = .returned (.tuple #[.slice (some ⟨R, 0, none⟩) s.length c, .int .i64 ((n : Nat) : Int)]) ∧ RowH w' (some ⟨R, 0, none⟩) s.length tt ∧ Mx (fitP s h lo hi) (fun _ => True) (· < h.length) n ∧ (∃ BB left, PairTo (fitP s h lo hi) h.length n s.length BB left tt) ∧ Below w.heap.size w w'
set_option maxRecDepth 100000 in
set_option maxHeartbeats 16000000 in
theorem rpair_any {A B : Option Addr} {ca cb : Nat} {s h : List Int} {lo hi : Int} (w : World) (hs : Sizes s) (hh : Sizes h) (l1 : s.length ≤ 64) (l2 : h.length ≤ 64) (hca : s.length ≤ ca) (rA : RowQ w A s.length s) (rB : RowQ w B h.length h) :
    Calls Try.prog 25 #[.slice A s.length ca, .slice B h.length cb, .agg #[.int .i64 lo, .int .i64 hi]] w (RPairR s h lo hi w) := by
  have hb1 : Below w.heap.size w (w.alloc (.cells #[.int .i64 lo, .int .i64 hi] 26)) := (Below.refl _ _).alloc (Nat.le_refl _) _
  have kC := Blk.new w 26 #[.int .i64 lo, .int .i64 hi]
  have hCl := kC.lt
  have HS := Lib.hid hs
  have HH := Lib.hid hh
  have HRA := Lib.hid rA
  have HRB := Lib.hid rB
  have HMo := Lib.hid (rmost_any (ca := ca) (cb := cb) (lo := lo) (hi := hi) _ hs hh (by omega) (by omega) (rA.later hb1) (rB.later hb1))
  clear hs hh rA rB
  go_enter Try.func25, Try.ntmps25
  go_upto_region 1 with fail
  revert kC hb1 hCl HMo
  generalize w.alloc (.cells #[.int .i64 lo, .int .i64 hi] 26) = w1
  generalize hNe : w.heap.size = N
  intro hb1 kC hCl HMo
  have HNe := Lib.hid hNe
  clear hNe
  have cC := kC.cell
  have lC := kC.lt
  go_wp2_with fail
  refine HMo.out.mono ?_
  rintro e w2 ⟨n, rfl, hmx, hns, hb2⟩
  have HMX := Lib.hid hmx
  have kC2 := kC.later hb2
  have hb3 := hb1.trans (hb2.mono (by have := hb1.size; rw [HNe.out] at this; exact this))
  have hN2 : N ≤ w2.heap.size := by have := hb3.size; rw [HNe.out] at this; exact this
  have hNG : N < w2.heap.size := Nat.lt_of_lt_of_le hCl hb2.size
  clear HMo hmx cC lC hb1 hb2 kC hCl
  go_upto_region 3 with fail
  have hownO : (w2.alloc (.cells #[] 3)).ownsRow N 3 1 (.slice (some ⟨w2.heap.size, 0, none⟩) 0 0) 0 (([] : List Int).map (Value.int .i64)) := World.ownsRow_made (base := N) (e := 3) (size := 1) w2 #[] 0 hN2 (by unfold maxLen; omega) (by simp)
  have hba : Below w2.heap.size w2 (w2.alloc (.cells #[] 3)) := (Below.refl _ _).alloc (Nat.le_refl _) _
  have kC3 := kC2.later hba
  have hb4 := hb3.trans (hba.mono hN2)
  have hsz3 : w2.heap.size < (w2.alloc (.cells #[] 3)).heap.size := by simp
  have hN3 : N ≤ (w2.alloc (.cells #[] 3)).heap.size := by simp; omega
  clear kC2 hb3 hba hN2
  revert hownO kC3 hb4 hsz3 hN3 hNG
  generalize w2.alloc (.cells #[] 3) = w3
  generalize w2.heap.size = GO
  intro hNG hownO kC3 hb4 hsz3 hN3
  have hownL : (w3.alloc (.cells #[] 3)).ownsRow N 3 1 (.slice (some ⟨w3.heap.size, 0, none⟩) 0 0) 0 (([] : List Int).map (Value.int .i64)) := World.ownsRow_made (base := N) (e := 3) (size := 1) w3 #[] 0 hN3 (by unfold maxLen; omega) (by simp)
  have hba : Below w3.heap.size w3 (w3.alloc (.cells #[] 3)) := (Below.refl _ _).alloc (Nat.le_refl _) _
  have HO4 := Lib.hid (own_later hownO hba)
  have HK4 := Lib.hid (kC3.later hba)
  have HB4 := Lib.hid (hb4.trans (hba.mono hN3))
  have HL4 := Lib.hid hownL
  have HR4 := Lib.hid ((HRB.out.later (w' := w3.alloc (.cells #[] 3)) (by rw [HNe.out]; exact HB4.out)).rowI)
  have HN4 : Hid (N ≤ (w3.alloc (.cells #[] 3)).heap.size) := Nat.le_trans hN3 hba.size
  clear hownL hba hownO kC3 hb4
  go_wp2_with (at_builtin; refine app_intsD _ rfl (.tmp 22) (.tmp 23) rfl N w3.heap.size 0 0 [] rfl HL4.out B h.length cb h rfl HR4.out (by omega) HN4.out ?_)
  all_goals
    intro gl cl w5 hown5 hgr5 hat5
    have hGL : GO ≠ gl := by
      have h1 : (w3.alloc (.cells #[] 3)).heap.size = w3.heap.size + 1 := by simp
      rcases hat5 with e | e <;> omega
    have rL5 := (own_rowH hown5).rowQ
    have hcl := own_cap hown5
    have hownO5 := HO4.out.kept hgr5 (.inr (by simp [Value.ownBlock]; omega))
    have kC5 := Blk.grown HK4.out hgr5 (by intro e; injection e with e; omega)
    have hb5 : Below N w w5 := HB4.out.grown hgr5 HN4.out (fun q hq => by cases hq; exact hN3)
    have hN5 : N ≤ w5.heap.size := Nat.le_trans HN4.out hgr5.size
    have hGO5 : GO < w5.heap.size := (World.ownsRow.lt hownO5 _ rfl).2
    have hglL : gl < w5.heap.size := (World.ownsRow.lt hown5 _ rfl).2
    clear hown5 hgr5 hat5 HO4 HK4 HB4 HL4 HR4 HN4 hN3
    go_upto_region 4 with fail
    have hownN : (w5.alloc (.cells #[] 3)).ownsRow N 3 1 (.slice (some ⟨w5.heap.size, 0, none⟩) 0 0) 0 (([] : List Int).map (Value.int .i64)) := World.ownsRow_made (base := N) (e := 3) (size := 1) w5 #[] 0 hN5 (by unfold maxLen; omega) (by simp)
    have hba : Below w5.heap.size w5 (w5.alloc (.cells #[] 3)) := (Below.refl _ _).alloc (Nat.le_refl _) _
    have rL6 := rL5.later hba
    have hownO6 := own_later hownO5 hba
    have kC6 := kC5.later hba
    have hb6 := hb5.trans (hba.mono hN5)
    have hN6 : N ≤ (w5.alloc (.cells #[] 3)).heap.size := by simp; omega
    have hsz6 : (w5.alloc (.cells #[] 3)).heap.size = w5.heap.size + 1 := by simp
    clear rL5 hownO5 kC5 hb5 hN5 hba
    revert hownN rL6 hownO6 kC6 hb6 hN6 hsz6
    generalize w5.alloc (.cells #[] 3) = w6
    obtain ⟨GN, hGNe⟩ : ∃ G, G = w5.heap.size := ⟨_, rfl⟩
    rw [← hGNe]
    intro hownN rL6 hownO6 kC6 hb6 hN6 hsz6
    have h1 : GO ≠ GN := by omega
    have h2 : gl ≠ GN := by omega
    have h3 : N < GN := by omega
    have h4 : GO < w6.heap.size := by omega
    clear hGNe hGO5 hglL hsz3
    have HSZ := Lib.hid hsz6
    have HH1 := Lib.hid h1
    have HH2 := Lib.hid h2
    clear hsz6 h1 h2
    go_wp2_with fail
    go_loopw [11, 12] (fun vn i wr => ∃ (k g c : Nat), k ≤ h.length ∧ i = .int .i64 k ∧ vn = .slice (some ⟨g, 0, none⟩) k c ∧ wr.ownsRow N 3 1 (.slice (some ⟨g, 0, none⟩) k c) k ((ofN (List.range k)).map (Value.int .i64)) ∧ Only (fun x => x = GN) w6 wr ∧ (g = GN ∨ w6.heap.size ≤ g)) (fun _ i _ => h.length - (RowKit.intOf i).toNat)
    case atStart => exact ⟨0, GN, 0, Nat.zero_le _, rfl, rfl, hownN, Only.refl _ _, .inl rfl⟩
    case round =>
      clear hownN
      obtain ⟨k, g, c, hk, rfl, rfl, hown, hon, hg⟩ := hrel
      by_cases hlt : k < h.length
      · have hd : decide ((k : Int) < (h.length : Int)) = true := decide_eq_true (by omega)
        have hki : (k : Int) < (h.length : Int) := by omega
        have hba : Below wr.heap.size wr (wr.alloc (.cells #[.int .i64 (k : Int)] 3)) := (Below.refl _ _).alloc (Nat.le_refl _) _
        have HO8 : Hid ((wr.alloc (.cells #[.int .i64 (k : Int)] 3)).ownsRow N 3 1 (.slice (some ⟨g, 0, none⟩) k c) k ((ofN (List.range k)).map (Value.int .i64))) := own_later hown hba
        have HSRC : Hid (RowI (wr.alloc (.cells #[.int .i64 (k : Int)] 3)) (some ⟨wr.heap.size, 0, none⟩) 1 [(k : Int)]) := RowI.of_row (RowB.of (l := [(k : Int)]) (by simpa [rowc] using Blk.new wr 3 #[.int .i64 (k : Int)])) rfl
        have HON8 := Lib.hid (hon.below hba)
        have HB8 : Hid (N ≤ (wr.alloc (.cells #[.int .i64 (k : Int)] 3)).heap.size) := Nat.le_trans hN6 HON8.out.size
        have HG := Lib.hid hg
        clear hown hba hon hg
        go_wp2_with (at_builtin; refine app_intsD _ rfl (.tmp 32) (.tmp 34) rfl N g k c (ofN (List.range k)) rfl HO8.out (some ⟨wr.heap.size, 0, none⟩) 1 1 [(k : Int)] rfl HSRC.out (by omega) HB8.out ?_)
        all_goals
          intro g' c' w9 hown9 hgr9 hat9
          have HR9 : Hid (w9.ownsRow N 3 1 (.slice (some ⟨g', 0, none⟩) (k + 1) c') (k + 1) ((ofN (List.range (k + 1))).map (Value.int .i64))) := by
            have := hown9
            rw [ofN_succ, List.map_append]
            exact this
          have HON9 := Lib.hid (HON8.out.grown hgr9 HG.out)
          have HG9 : Hid (g' = GN ∨ w6.heap.size ≤ g') := by
            rcases hat9 with e | e
            · rw [e]; exact HG.out
            · exact .inr (by have h5 := HON8.out.size; have h6 : (wr.alloc (.cells #[.int .i64 (k : Int)] 3)).heap.size = wr.heap.size + 1 := by simp
                             omega)
          clear hown9 hgr9 hat9
          go_wp2_with fail
          go_roundw
          case rel => exact ⟨k + 1, g', c', by omega, by go_num, rfl, HR9.out, HON9.out, HG9.out⟩
          case measure => simp [RowKit.intOf]; omega
      · obtain rfl : k = h.length := by omega
        have hd : decide ((h.length : Int) < (h.length : Int)) = false := decide_eq_false (by omega)
        have HP0 : Hid (PrW N w s h lo hi n 0 n GO 0 cl c (some ⟨gl, 0, none⟩) (some ⟨g, 0, none⟩) (List.range h.length) [] wr) := by
          refine ⟨Nat.zero_le _, hownO6.kept hon.grownBy (.inr (by simp [Value.ownBlock]; exact HH1.out)), ?_, by simpa using hcl, ?_, by simpa using own_cap hown, ?_, ?_, PrI.first, hon.blk kC6 (fun e => by omega), hb6.trans (hon.to_below hN6 fun x hx => by omega), Nat.le_trans hN6 hon.size, hNG⟩
          · have := hon.rowQ rL6 (fun p _ e => by cases e; exact HH2.out)
            have e : hol h (List.range h.length) = h := by
              unfold hol
              refine List.ext_getElem (by simp) fun i h1 h2 => ?_
              rw [List.getElem_map, List.getElem_range, List.getD_eq_getElem?_getD, List.getElem?_eq_getElem h2]
              rfl
            rw [e, List.length_range]
            exact this
          · rw [List.length_range]
            exact (own_rowH hown).rowQ
          · intro p _ e
            cases e
            exact hGL.symm
          · intro p _ e
            cases e
            have := HH1.out
            rcases hg with e | e <;> simp <;> omega
        clear hownO6 rL6 kC6 hb6 hown hon hg
        go_wp2_with fail
        go_loopw [9, 10, 11, 13, 14, 15, 16] (fun vo vl vn vd i _ _ wr => ∃ (k nd go co cl cn : Nat) (AL AN : Option Addr) (R : List Nat) (tt : List Int), i = .int .i64 k ∧ vd = .int .i64 nd ∧ vo = .slice (some ⟨go, 0, none⟩) k co ∧ vl = .slice AL R.length cl ∧ vn = .slice AN R.length cn ∧ Hid (PrW N w s h lo hi n k nd go co cl cn AL AN R tt wr)) (fun _ _ _ _ i _ _ _ => s.length - (RowKit.intOf i).toNat)
        case atStart => exact ⟨0, n, GO, 0, cl, c, _, _, List.range h.length, [], rfl, rfl, rfl, by rw [List.length_range], by rw [List.length_range], HP0⟩
        case round =>
          obtain ⟨wq, hwq⟩ : ∃ x, x = wr := ⟨_, rfl⟩
          subst hwq
          obtain ⟨k, nd, go, co, cL, cN, AL, AN, R, tt, rfl, rfl, rfl, rfl, rfl, HP⟩ := hrel
          have hks := HP.out.le
          have hR64 : R.length ≤ 64 := by
            have := len_of_sub (b := List.range h.length) HP.out.inv.nd_ (fun i hi => List.mem_range.2 (HP.out.inv.lt i hi))
            rw [List.length_range] at this
            omega
          have hndn := HP.out.nd_le
          by_cases hlt2 : k < s.length
          · have hd2 : decide ((k : Int) < (s.length : Int)) = true := decide_eq_true (by omega)
            have hki : (k : Int) < (s.length : Int) := by omega
            go_wp2_with fail
            go_loopw [10, 11, 13, 15, 16] (fun vl vn vd vg j wr => ∃ q : Nat, q ≤ R.length ∧ vl = .slice AL R.length cL ∧ vn = .slice AN R.length cN ∧ vd = .int .i64 nd ∧ vg = .int .i64 (-1) ∧ j = .int .i64 q ∧ Hid (PrNo s h lo hi k R nd q) ∧ Below wq.heap.size wq wr) (fun _ _ _ _ j _ => R.length - (RowKit.intOf j).toNat)
            case atStart => exact ⟨0, Nat.zero_le _, rfl, rfl, rfl, rfl, rfl, PrNo.zero, Below.refl _ _⟩
            case round =>
              obtain ⟨wi, hwi⟩ : ∃ x, x = wr := ⟨_, rfl⟩
              subst hwi
              obtain ⟨q, hq, rfl, rfl, rfl, rfl, rfl, HQ, hbi⟩ := hrel
              have HPi := Lib.hid (HP.out.later hbi)
              by_cases hlt3 : q < R.length
              · have hd3 : decide ((q : Int) < (R.length : Int)) = true := decide_eq_true (by omega)
                have hqi : (q : Int) < (R.length : Int) := by omega
                obtain ⟨v, hv⟩ : ∃ v, R[q]? = some v := ⟨_, List.getElem?_eq_getElem hlt3⟩
                have HV := Lib.hid hv
                have hvh : v < h.length := HP.out.inv.lt v (List.mem_of_getElem? hv)
                obtain ⟨gL, qL, hAL, hgL, hcL⟩ := HPi.out.rl.at_ hlt3
                rw [hol_at hv] at hcL
                obtain ⟨gs, qs, rfl, hgs, hcs⟩ := ((HRA.out.later (by rw [HNe.out]; exact HPi.out.bel)).at_ hlt2 : _)
                have cC := HPi.out.box.cell
                have lC := HPi.out.box.lt
                have b1 := HS.out.at_ k
                have b2 := HH.out.at_ v
                have HFB := Lib.hid (fitB_iff (s := s) (h := h) (lo := lo) (hi := hi) (x := k) (k := v) hlt2 hvh)
                have hfd : fitB s h lo hi k v = (decide (lo ≤ h.getD v 0 - s.getD k 0) && decide (h.getD v 0 - s.getD k 0 ≤ hi)) := rfl
                have HM := fun w => rin_any (h.getD v 0 - s.getD k 0) lo hi w
                rw [← hfd] at HM
                obtain ⟨fb, hfb⟩ : ∃ b, b = fitB s h lo hi k v := ⟨_, rfl⟩
                rw [← hfb] at HM HFB
                have HM' := Lib.hid HM
                clear HM hfd hfb hv
                generalize h.getD v 0 = hvv at *
                generalize s.getD k 0 = svv at *
                subst hAL
                cases fb with
                | false =>
                  have HQ2 : Hid (PrNo s h lo hi k R nd (q + 1)) := HQ.out.next HV.out fun hc => by have := HFB.out.2 hc.2.1; cases this
                  have hxl := later_cell (w := wi)
                  clear HQ
                  go_wp2_with fail
                  refine wp_region_later (by kernel_rfl) (by kernel_rfl) ?_
                  repeat (go_big_quiet_step ((go_at_call 60; exact later_same (HM'.out _))))
                  refine wpQuiet_nil ?_
                  rintro w2 ⟨⟨_, hb2⟩, rfl⟩
                  clear hxl hcL hcs cC lC
                  have hb3 := hbi.trans (hb2.mono hbi.size)
                  clear hbi hb2 HPi
                  go_wp2_with fail
                  go_roundw
                  case rel => exact ⟨q + 1, by omega, rfl, rfl, rfl, rfl, by go_num, HQ2, hb3⟩
                  case measure => simp [RowKit.intOf]; omega
                | true =>
                  have HFT := Lib.hid (HFB.out.1 rfl)
                  obtain ⟨j, hj⟩ : ∃ j, j = k + 1 := ⟨_, rfl⟩
                  have hwj : IntKind.i64.wrap ((k : Int) + 1) = (j : Int) := by rw [IntKind.wrap_i64]; omega
                  have hwr : IntKind.i64.wrap (hvv - svv) = hvv - svv := by rw [IntKind.wrap_i64]; omega
                  have hwn : IntKind.i64.wrap ((nd : Int) - 1) = (nd : Int) - 1 := by rw [IntKind.wrap_i64]; omega
                  have hjn : (j : Int) ≤ (s.length : Int) := by omega
                  have hj0 : (0 : Int) ≤ (j : Int) := by omega
                  have hjc : (s.length : Int) ≤ (ca : Int) := by omega
                  have HJ := Lib.hid hj
                  obtain ⟨AS, hASE⟩ : ∃ AS, AS = (if ca = j then some (⟨gs, qs, none⟩ : Addr) else some ⟨gs, qs + j, none⟩) := ⟨_, rfl⟩
                  have HASE := Lib.hid hASE
                  clear hASE
                  have HAS := Lib.hid fun V (hV : Below wi.heap.size wi V) => ((show RowQ V AS (s.length - j) (s.drop j) from by
                    rw [HASE.out]
                    have r := (HRA.out.later (by rw [HNe.out]; exact HPi.out.bel)).later hV
                    split
                    · rename_i e
                      have h1 : s.drop j = [] := List.drop_eq_nil_of_le (by omega)
                      have h2 : s.length - j = 0 := by omega
                      rw [h1, h2]
                      exact RowQ.none
                    · exact r.drop))
                  have HWO := Lib.hid fun V (hV : Below wi.heap.size wi V) => rwithout_len (some ⟨gL, qL, none⟩) R.length cL q (wout R q).length (hol h R) V (HPi.out.rl.later hV) HPi.out.lcl (by omega) hlt3 (wout_len R hlt3)
                  have hWE := Lib.hid (show wout (hol h R) q = hol h (wout R q) from wout_map _ _ _)
                  have HMOST := Lib.hid fun V AS c1 BL c2 (r1 : RowQ V AS (s.length - j) (s.drop j)) (r2 : RowQ V BL (wout R q).length (wout (hol h R) q)) => (show Calls Try.prog 42 #[.slice AS (s.length - j) c1, .slice BL (wout R q).length c2, .agg #[.int .i64 lo, .int .i64 hi]] V (MostN (s.drop j) (wout (hol h R) q) lo hi V) from by
                    have e1 := r1.1
                    have e2 := r2.1
                    rw [← e1, ← e2]
                    rw [← e1] at r1
                    rw [← e2] at r2
                    exact rmost_any V (fun x hx => HS.out x (List.mem_of_mem_drop hx)) (fun x hx => by
                      have hx2 := (wout_sub _ _).subset hx
                      obtain ⟨k2, _, rfl⟩ := List.mem_map.1 hx2
                      exact HH.out.at_ k2) (by rw [List.length_drop]; omega) (by have := (wout_sub (hol h R) q).length_le; rw [hol_len] at this; omega) r1 r2)
                  have HCD := Lib.hid fun nn hm => HP.out.inv.cand HV.out (nn := nn) hm HFT.out
                  clear hj HFB
                  go_wp2_with fail
                  refine region_held_var (S := fun V => Below wi.heap.size wi V) (by kernel_rfl) (Below.refl _ _).drew (fun V0 hV0 hb0 => ?_)
                  clear hV0
                  refine wpAnyH_take (i := 0) (v := ?_) rfl (by kernel_rfl) (by kernel_rfl) (by kernel_rfl) (fun _ _ _ h => h) (Or.inl ⟨by rfl, ?hy⟩) (by assumption) ?_
                  case hy => (intro w hSw; have hcw : ∀ p o, p < wi.heap.size → w.cell? ⟨p, o, none⟩ = wi.cell? ⟨p, o, none⟩ := (fun p o h => hSw.cell (p := ⟨p, o, none⟩) h); clear hSw; go_simp; try with_reducible rfl)
                  refine wpAnyH_take (i := 1) (v := ?_) rfl (by kernel_rfl) (by kernel_rfl) (by kernel_rfl) (fun _ _ _ h => h) (Or.inl ⟨by rfl, ?hy⟩) (by assumption) ?_
                  case hy => (intro w hSw; have hcw : ∀ p o, p < wi.heap.size → w.cell? ⟨p, o, none⟩ = wi.cell? ⟨p, o, none⟩ := (fun p o h => hSw.cell (p := ⟨p, o, none⟩) h); clear hSw; go_simp; try with_reducible rfl)
                  refine wpAnyH_take (i := 2) (v := ?_) rfl (by kernel_rfl) (by kernel_rfl) (by kernel_rfl) (fun _ _ _ h => h) (Or.inl ⟨by rfl, ?hy⟩) (by assumption) ?_
                  case hy => (intro w hSw; have hcw : ∀ p o, p < wi.heap.size → w.cell? ⟨p, o, none⟩ = wi.cell? ⟨p, o, none⟩ := (fun p o h => hSw.cell (p := ⟨p, o, none⟩) h); clear hSw; go_simp; try with_reducible rfl)
                  refine wpAnyH_take (i := 3) (v := ?_) rfl (by kernel_rfl) (by kernel_rfl) (by kernel_rfl) (fun _ _ _ h => h) (Or.inl ⟨by rfl, ?hy⟩) (by assumption) ?_
                  case hy => (intro w hSw; have hcw : ∀ p o, p < wi.heap.size → w.cell? ⟨p, o, none⟩ = wi.cell? ⟨p, o, none⟩ := (fun p o h => hSw.cell (p := ⟨p, o, none⟩) h); clear hSw; go_simp; try with_reducible rfl)
                  refine wpAnyH_take (i := 4) (v := ?_) rfl (by kernel_rfl) (by kernel_rfl) (by kernel_rfl) (fun _ _ _ h => h) (Or.inl ⟨by rfl, ?hy⟩) (by assumption) ?_
                  case hy => (intro w hSw; have hcw : ∀ p o, p < wi.heap.size → w.cell? ⟨p, o, none⟩ = wi.cell? ⟨p, o, none⟩ := (fun p o h => hSw.cell (p := ⟨p, o, none⟩) h); clear hSw; go_simp; try with_reducible rfl)
                  refine wpAnyH_take (i := 5) (v := ?_) rfl (by kernel_rfl) (by kernel_rfl) (by kernel_rfl) (fun _ _ _ h => h) (Or.inl ⟨by rfl, ?hy⟩) (by assumption) ?_
                  case hy => (intro w hSw; have hcw : ∀ p o, p < wi.heap.size → w.cell? ⟨p, o, none⟩ = wi.cell? ⟨p, o, none⟩ := (fun p o h => hSw.cell (p := ⟨p, o, none⟩) h); clear hSw; go_simp; try with_reducible rfl)
                  refine wpAnyH_take (i := 6) (v := ?_) rfl (by kernel_rfl) (by kernel_rfl) (by kernel_rfl) (fun _ _ _ h => h) (Or.inl ⟨by rfl, ?hy⟩) (by assumption) ?_
                  case hy => (intro w hSw; have hcw : ∀ p o, p < wi.heap.size → w.cell? ⟨p, o, none⟩ = wi.cell? ⟨p, o, none⟩ := (fun p o h => hSw.cell (p := ⟨p, o, none⟩) h); clear hSw; go_simp; try with_reducible rfl)
                  refine wpAnyH_take (i := 7) (v := ?_) rfl (by kernel_rfl) (by kernel_rfl) (by kernel_rfl) (fun _ _ _ h => h) (Or.inl ⟨by rfl, ?hy⟩) (by assumption) ?_
                  case hy => (intro w hSw; have hcw : ∀ p o, p < wi.heap.size → w.cell? ⟨p, o, none⟩ = wi.cell? ⟨p, o, none⟩ := (fun p o h => hSw.cell (p := ⟨p, o, none⟩) h); clear hSw; go_simp; try with_reducible rfl)
                  refine wpAnyH_take (i := 8) (v := ?_) rfl (by kernel_rfl) (by kernel_rfl) (by kernel_rfl) (fun _ _ _ h => h) (Or.inl ⟨by rfl, ?hy⟩) (by assumption) ?_
                  case hy => (intro w hSw; have hcw : ∀ p o, p < wi.heap.size → w.cell? ⟨p, o, none⟩ = wi.cell? ⟨p, o, none⟩ := (fun p o h => hSw.cell (p := ⟨p, o, none⟩) h); clear hSw; go_simp; try with_reducible rfl)
                  refine wpAnyH_take (i := 9) (v := ?_) rfl (by kernel_rfl) (by kernel_rfl) (by kernel_rfl) (fun _ _ _ h => h) (Or.inl ⟨by rfl, ?hy⟩) (by assumption) ?_
                  case hy => (intro w hSw; have hcw : ∀ p o, p < wi.heap.size → w.cell? ⟨p, o, none⟩ = wi.cell? ⟨p, o, none⟩ := (fun p o h => hSw.cell (p := ⟨p, o, none⟩) h); clear hSw; go_simp; try with_reducible rfl)
                  refine wpAnyH_take (i := 10) (v := ?_) rfl (by kernel_rfl) (by kernel_rfl) (by kernel_rfl) (fun _ _ _ h => h) (Or.inl ⟨by rfl, ?hy⟩) (by assumption) ?_
                  case hy => (intro w hSw; have hcw : ∀ p o, p < wi.heap.size → w.cell? ⟨p, o, none⟩ = wi.cell? ⟨p, o, none⟩ := (fun p o h => hSw.cell (p := ⟨p, o, none⟩) h); clear hSw; go_simp; try with_reducible rfl)
                  refine wpAnyH_take (i := 11) (v := ?_) rfl (by kernel_rfl) (by kernel_rfl) (by kernel_rfl) (fun _ _ _ h => h) (Or.inl ⟨by rfl, ?hy⟩) (by assumption) ?_
                  case hy => (intro w hSw; have hcw : ∀ p o, p < wi.heap.size → w.cell? ⟨p, o, none⟩ = wi.cell? ⟨p, o, none⟩ := (fun p o h => hSw.cell (p := ⟨p, o, none⟩) h); clear hSw; go_simp; try with_reducible rfl)
                  refine wpAnyH_take (i := 12) (v := ?_) rfl (by kernel_rfl) (by kernel_rfl) (by kernel_rfl) (fun _ _ _ h => h) (Or.inl ⟨by rfl, ?hy⟩) (by assumption) ?_
                  case hy => (intro w hSw; have hcw : ∀ p o, p < wi.heap.size → w.cell? ⟨p, o, none⟩ = wi.cell? ⟨p, o, none⟩ := (fun p o h => hSw.cell (p := ⟨p, o, none⟩) h); clear hSw; go_simp; try with_reducible rfl)
                  clear hcL hcs
                  simp only [Act.put, List.setIfInBounds_toArray]
                  refine wpAnyH_ready (rs := [13]) (by kernel_rfl) (by simp) (AllReadyH.cons rfl (fun K hK => ?_) AllReadyH.nil)
                  go_simp
                  refine (HM'.out _).mono ?_
                  rintro e w5 ⟨rfl, rfl⟩
                  refine hK.out _ _ hb0 (fun _ => ?_)
                  clear hK K
                  refine wpAnyH_take (i := 14) (v := ?_) rfl (by kernel_rfl) (by kernel_rfl) (by kernel_rfl) (fun _ _ _ h => h) (Or.inl ⟨by rfl, ?hy⟩) (by assumption) ?_
                  case hy => (intro w hSw; have hcw : ∀ p o, p < wi.heap.size → w.cell? ⟨p, o, none⟩ = wi.cell? ⟨p, o, none⟩ := (fun p o h => hSw.cell (p := ⟨p, o, none⟩) h); clear hSw; go_simp; try with_reducible rfl)
                  refine wpAnyH_take (i := 15) (v := ?_) rfl (by kernel_rfl) (by kernel_rfl) (by kernel_rfl) (fun _ _ _ h => h) (Or.inl ⟨by rfl, ?hy⟩) (by assumption) ?_
                  case hy => (intro w hSw; have hcw : ∀ p o, p < wi.heap.size → w.cell? ⟨p, o, none⟩ = wi.cell? ⟨p, o, none⟩ := (fun p o h => hSw.cell (p := ⟨p, o, none⟩) h); clear hSw; go_simp; try with_reducible rfl)
                  refine wpAnyH_take (i := 16) (v := ?_) rfl (by kernel_rfl) (by kernel_rfl) (by kernel_rfl) (fun _ _ _ h => h) (Or.inl ⟨by rfl, ?hy⟩) (by assumption) ?_
                  case hy => (intro w hSw; have hcw : ∀ p o, p < wi.heap.size → w.cell? ⟨p, o, none⟩ = wi.cell? ⟨p, o, none⟩ := (fun p o h => hSw.cell (p := ⟨p, o, none⟩) h); clear hSw; go_simp; try with_reducible rfl)
                  refine wpAnyH_take (i := 17) (v := ?_) rfl (by kernel_rfl) (by kernel_rfl) (by kernel_rfl) (fun _ _ _ h => h) (Or.inl ⟨by rfl, ?hy⟩) (by assumption) ?_
                  case hy => (intro w hSw; have hcw : ∀ p o, p < wi.heap.size → w.cell? ⟨p, o, none⟩ = wi.cell? ⟨p, o, none⟩ := (fun p o h => hSw.cell (p := ⟨p, o, none⟩) h); clear hSw; go_simp; try with_reducible rfl)
                  simp only [Act.put, List.getElem_toArray, List.getElem_cons_succ, List.getElem_cons_zero, List.setIfInBounds_toArray, List.set_cons_succ, List.set_cons_zero]
                  refine wpAnyH_take (i := 18) (v := .slice AS (s.length - j) (ca - j)) rfl (by kernel_rfl) (by kernel_rfl) (by kernel_rfl) (fun _ _ _ h => h) (Or.inl ⟨by rfl, ?hy⟩) (by assumption) ?_
                  case hy => (intro w hSw; have hcw : ∀ p o, p < wi.heap.size → w.cell? ⟨p, o, none⟩ = wi.cell? ⟨p, o, none⟩ := (fun p o h => hSw.cell (p := ⟨p, o, none⟩) h); clear hSw; go_simp; rw [HASE.out])
                  refine wpAnyH_take (i := 19) (v := ?_) rfl (by kernel_rfl) (by kernel_rfl) (by kernel_rfl) (fun _ _ _ h => h) (Or.inl ⟨by rfl, ?hy⟩) (by assumption) ?_
                  case hy => (intro w hSw; have hcw : ∀ p o, p < wi.heap.size → w.cell? ⟨p, o, none⟩ = wi.cell? ⟨p, o, none⟩ := (fun p o h => hSw.cell (p := ⟨p, o, none⟩) h); clear hSw; go_simp; try with_reducible rfl)
                  refine wpAnyH_take (i := 20) (v := ?_) rfl (by kernel_rfl) (by kernel_rfl) (by kernel_rfl) (fun _ _ _ h => h) (Or.inl ⟨by rfl, ?hy⟩) (by assumption) ?_
                  case hy => (intro w hSw; have hcw : ∀ p o, p < wi.heap.size → w.cell? ⟨p, o, none⟩ = wi.cell? ⟨p, o, none⟩ := (fun p o h => hSw.cell (p := ⟨p, o, none⟩) h); clear hSw; go_simp; try with_reducible rfl)
                  simp only [Act.put, List.getElem_toArray, List.getElem_cons_succ, List.getElem_cons_zero, List.setIfInBounds_toArray, List.set_cons_succ, List.set_cons_zero]
                  refine wpAnyH_take (i := 22) (v := ?_) rfl (by kernel_rfl) (by kernel_rfl) (by kernel_rfl) (fun _ _ _ h => h) (Or.inl ⟨by rfl, ?hy⟩) (by assumption) ?_
                  case hy => (intro w hSw; have hcw : ∀ p o, p < wi.heap.size → w.cell? ⟨p, o, none⟩ = wi.cell? ⟨p, o, none⟩ := (fun p o h => hSw.cell (p := ⟨p, o, none⟩) h); clear hSw; go_simp; try with_reducible rfl)
                  refine wpAnyH_take (i := 24) (v := ?_) rfl (by kernel_rfl) (by kernel_rfl) (by kernel_rfl) (fun _ _ _ h => h) (Or.inl ⟨by rfl, ?hy⟩) (by assumption) ?_
                  case hy => (intro w hSw; have hcw : ∀ p o, p < wi.heap.size → w.cell? ⟨p, o, none⟩ = wi.cell? ⟨p, o, none⟩ := (fun p o h => hSw.cell (p := ⟨p, o, none⟩) h); clear hSw; go_simp; try with_reducible rfl)
                  refine wpAnyH_take (i := 25) (v := ?_) rfl (by kernel_rfl) (by kernel_rfl) (by kernel_rfl) (fun _ _ _ h => h) (Or.inl ⟨by rfl, ?hy⟩) (by assumption) ?_
                  case hy => (intro w hSw; have hcw : ∀ p o, p < wi.heap.size → w.cell? ⟨p, o, none⟩ = wi.cell? ⟨p, o, none⟩ := (fun p o h => hSw.cell (p := ⟨p, o, none⟩) h); clear hSw; go_simp; try with_reducible rfl)
                  simp only [Act.put, List.getElem_toArray, List.getElem_cons_succ, List.getElem_cons_zero, List.setIfInBounds_toArray, List.set_cons_succ, List.set_cons_zero]
                  clear cC lC
                  refine wpAnyH_ready (rs := [21]) (by kernel_rfl) (by simp) (AllReadyH.cons rfl (fun K hK => ?_) AllReadyH.nil)
                  go_simp
                  refine (HWO.out V0 hb0).mono ?_
                  rintro e V1 ⟨R1, c1, rfl, rL1, hR1, hc1, hb1⟩
                  have hb2 := hb0.trans (hb1.mono hb0.size)
                  refine hK.out _ _ hb2 (fun _ => ?_)
                  clear hK K hb1
                  refine wpAnyH_ready (rs := [23]) (by kernel_rfl) (by simp) (AllReadyH.cons rfl (fun K hK => ?_) AllReadyH.nil)
                  go_simp
                  refine (HMOST.out V1 _ _ _ _ (HAS.out V1 hb2) rL1).mono ?_
                  rintro e V2 ⟨nn, rfl, hmx2, hns2, hb3⟩
                  have hb4 := hb2.trans (hb3.mono hb2.size)
                  refine hK.out _ _ hb4 (fun _ => ?_)
                  clear hK K hb3 hb2 hb0 rL1 HAS HMOST hR1 hc1 HWO
                  have hCD := HCD.out nn (by have := hmx2; rw [hWE.out, HJ.out] at this; exact this)
                  have HCD2 := Lib.hid hCD
                  clear hmx2 HCD hCD
                  have hb5 := hbi.trans (hb4.mono hbi.size)
                  by_cases hnn : (nn : Int) = (nd : Int) - 1
                  · have hcb : ((nn : Int) == (nd : Int) - 1) = true := by rw [hnn]; simp
                    have HCN := Lib.hid (HCD2.out.2 hnn)
                    clear hnn HCD2
                    refine wpAnyH_take (i := 26) (v := ?_) rfl (by kernel_rfl) (by kernel_rfl) (by kernel_rfl) (fun _ _ _ h => h) (Or.inl ⟨by rfl, ?hy⟩) (by assumption) ?_
                    case hy => (intro w hSw; have hcw : ∀ p o, p < wi.heap.size → w.cell? ⟨p, o, none⟩ = wi.cell? ⟨p, o, none⟩ := (fun p o h => hSw.cell (p := ⟨p, o, none⟩) h); clear hSw; go_simp; try with_reducible rfl)
                    refine wpAnyH_take (i := 27) (v := ?_) rfl (by kernel_rfl) (by kernel_rfl) (by kernel_rfl) (fun _ _ _ h => h) (Or.inl ⟨by rfl, ?hy⟩) (by assumption) ?_
                    case hy => (intro w hSw; have hcw : ∀ p o, p < wi.heap.size → w.cell? ⟨p, o, none⟩ = wi.cell? ⟨p, o, none⟩ := (fun p o h => hSw.cell (p := ⟨p, o, none⟩) h); clear hSw; go_simp; try with_reducible rfl)
                    refine wpAnyH_done (by kernel_rfl) ?_ _
                    have HPv := Lib.hid (HP.out.later hb5)
                    obtain ⟨gN, qN, hAN, hgN, hcN⟩ := HPv.out.rn.at_ hlt3
                    rw [ofN_at HV.out] at hcN
                    have HINV := Lib.hid (HP.out.inv.hit HQ.out HV.out HCN.out)
                    subst hAN
                    have HW1 := Lib.hid fun V (hV : Below V2.heap.size V2 V) => rwithout_len (some ⟨gL, qL, none⟩) R.length cL q (wout R q).length (hol h R) V (HPv.out.rl.later hV) HPv.out.lcl (by omega) hlt3 (wout_len R hlt3)
                    have HW2 := Lib.hid fun V (hV : Below V2.heap.size V2 V) => rwithout_len (some ⟨gN, qN, none⟩) R.length cN q (wout R q).length (ofN R) V (HPv.out.rn.later hV) HPv.out.lcn (by omega) hlt3 (wout_len R hlt3)
                    have hNE := Lib.hid (show wout (ofN R) q = ofN (wout R q) from wout_map _ _ _)
                    have hgoV := Lib.hid (World.ownsRow.lt HPv.out.own go rfl).2
                    have hnd1 : ((nd - 1 : Nat) : Int) = (nd : Int) - 1 := by have := HCN.out.2.2.1; omega
                    have HND := Lib.hid hnd1
                    clear hnd1 hcb hb4 hwj hwn hwr
                    go_wp2_with fail
                    refine (HW1.out V2 (Below.refl _ _)).mono ?_
                    rintro e V3 ⟨R2, c2, rfl, rL2, hR2, hc2, hb6⟩
                    rw [hWE.out] at rL2
                    clear hcN
                    go_wp2_with fail
                    refine (HW2.out V3 hb6).mono ?_
                    rintro e V4 ⟨R3, c3, rfl, rN3, hR3, hc3, hb7⟩
                    rw [hNE.out] at rN3
                    have HPw := Lib.hid ((HPv.out.later hb6).later hb7)
                    have HF2 : Hid (go ≠ R2 ∧ go ≠ R3) := ⟨by have := hgoV.out; omega, by have := hgoV.out; have := hb6.size; omega⟩
                    have HC23 := Lib.hid (And.intro hc2 hc3)
                    have HL2 := Lib.hid (rL2.later hb7)
                    have HN3 := Lib.hid rN3
                    clear hb6 hb7 rL2 rN3 hR2 hR3 HW1 HW2 HPv HPi hc2 hc3 hbi hb5
                    have hba : Below V4.heap.size V4 (V4.alloc (.cells #[.int .i64 (v : Int)] 3)) := (Below.refl _ _).alloc (Nat.le_refl _) _
                    have HP8 := Lib.hid (HPw.out.later hba)
                    have HSRC : Hid (RowI (V4.alloc (.cells #[.int .i64 (v : Int)] 3)) (some ⟨V4.heap.size, 0, none⟩) 1 [(v : Int)]) := RowI.of_row (RowB.of (l := [(v : Int)]) (by simpa [rowc] using Blk.new V4 3 #[.int .i64 (v : Int)])) rfl
                    have HRL := Lib.hid ((HL2.out).later hba)
                    have HRN := Lib.hid ((HN3.out).later hba)
                    clear hba
                    go_wp2_with (at_builtin; refine app_intsD _ rfl (.tmp 89) (.tmp 91) rfl N go k co tt rfl HP8.out.own (some ⟨V4.heap.size, 0, none⟩) 1 1 [(v : Int)] rfl HSRC.out (by omega) HP8.out.low ?_)
                    all_goals
                      intro g9 c9 w9 hown9 hgr9 hat9
                      have HR9 := Lib.hid (HP8.out.push (by omega) (by rw [List.map_append]; exact hown9) hgr9 (by rcases hat9 with e | e; exact .inl e; exact .inr (by rw [e]; simp)) HRL.out HC23.out.1 HRN.out HC23.out.2 (fun p _ e => by cases e; exact HF2.out.1.symm) (fun p _ e => by cases e; exact HF2.out.2.symm) HINV.out)
                      clear hown9 hgr9 hat9
                      go_wp2_with fail
                      go_roundw
                      case rel => exact ⟨k + 1, nd - 1, g9, c9, c2, c3, _, _, wout R q, _, by go_num, by rw [HND.out], rfl, rfl, rfl, HR9⟩
                      case measure => simp [RowKit.intOf]; omega
                  · have hcb : ((nn : Int) == (nd : Int) - 1) = false := by simpa using hnn
                    have HQ2 := Lib.hid (HQ.out.next HV.out fun hc => hnn (HCD2.out.1 hc))
                    clear hnn HCD2
                    refine wpAnyH_take (i := 26) (v := ?_) rfl (by kernel_rfl) (by kernel_rfl) (by kernel_rfl) (fun _ _ _ h => h) (Or.inl ⟨by rfl, ?hy⟩) (by assumption) ?_
                    case hy => (intro w hSw; have hcw : ∀ p o, p < wi.heap.size → w.cell? ⟨p, o, none⟩ = wi.cell? ⟨p, o, none⟩ := (fun p o h => hSw.cell (p := ⟨p, o, none⟩) h); clear hSw; go_simp; try with_reducible rfl)
                    refine wpAnyH_take (i := 27) (v := ?_) rfl (by kernel_rfl) (by kernel_rfl) (by kernel_rfl) (fun _ _ _ h => h) (Or.inl ⟨by rfl, ?hy⟩) (by assumption) ?_
                    case hy => (intro w hSw; have hcw : ∀ p o, p < wi.heap.size → w.cell? ⟨p, o, none⟩ = wi.cell? ⟨p, o, none⟩ := (fun p o h => hSw.cell (p := ⟨p, o, none⟩) h); clear hSw; go_simp; try with_reducible rfl)
                    refine wpAnyH_done (by kernel_rfl) ?_ _
                    clear hcb hb4 HPi hbi HQ hwj hwn hwr
                    go_wp2_with fail
                    go_roundw
                    case rel => exact ⟨q + 1, by omega, rfl, rfl, rfl, rfl, by go_num, HQ2.out, hb5⟩
                    case measure => simp [RowKit.intOf]; omega
              · obtain rfl : q = R.length := by omega
                have hd3 : decide ((R.length : Int) < (R.length : Int)) = false := decide_eq_false (by omega)
                have HINV := Lib.hid (HP.out.inv.miss HQ.out)
                clear HQ
                have hba : Below wi.heap.size wi (wi.alloc (.cells #[.int .i64 (-1)] 3)) := (Below.refl _ _).alloc (Nat.le_refl _) _
                have HP8 := Lib.hid (HPi.out.later hba)
                have HSRC : Hid (RowI (wi.alloc (.cells #[.int .i64 (-1)] 3)) (some ⟨wi.heap.size, 0, none⟩) 1 [(-1)]) := RowI.of_row (RowB.of (l := [(-1)]) (by simpa [rowc] using Blk.new wi 3 #[.int .i64 (-1)])) rfl
                have HRL := Lib.hid ((HPi.out.rl).later hba)
                have HRN := Lib.hid ((HPi.out.rn).later hba)
                clear hba
                go_wp2_with (at_builtin; refine app_intsD _ rfl (.tmp 89) (.tmp 91) rfl N go k co tt rfl HP8.out.own (some ⟨wi.heap.size, 0, none⟩) 1 1 [(-1)] rfl HSRC.out (by omega) HP8.out.low ?_)
                all_goals
                  intro g9 c9 w9 hown9 hgr9 hat9
                  have HR9 := Lib.hid (HP8.out.push (by omega) (by rw [List.map_append]; exact hown9) hgr9 (by rcases hat9 with e | e; exact .inl e; exact .inr (by rw [e]; simp)) HRL.out HP8.out.lcl HRN.out HP8.out.lcn HP8.out.fl HP8.out.fn HINV.out)
                  clear hown9 hgr9 hat9
                  go_wp2_with fail
                  go_roundw
                  case rel => exact ⟨k + 1, nd, g9, c9, cL, cN, AL, AN, R, _, by go_num, rfl, rfl, rfl, rfl, HR9⟩
                  case measure => simp [RowKit.intOf]; omega
          · obtain rfl : k = s.length := by omega
            have hd2 : decide ((s.length : Int) < (s.length : Int)) = false := decide_eq_false (by omega)
            have HF := Lib.hid (And.intro (own_rowH HP.out.own) (And.intro HP.out.inv.pt HP.out.bel))
            clear HP hks hndn
            go_wp2_with fail
            go_ret2
            exact ⟨go, co, n, tt, rfl, HF.out.1, HMX.out, ⟨_, _, HF.out.2.1⟩, by rw [HNe.out]; exact HF.out.2.2⟩
end Go.Proofs.Ytpklcjbdmikbdaa
