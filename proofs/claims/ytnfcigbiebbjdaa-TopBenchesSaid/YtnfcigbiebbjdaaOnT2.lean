/-
  The most jobs on time: the walk.
  Conditions: the jobs are valid; the slices start at the heads of blocks.
-/
import Derived.Test.YtnfcigbiebbjdaaOnT
import Derived.Deep.RegionHeld3
namespace Go.Proofs.Ytnfcigbiebbjdaa
open Go.RowKit

set_option maxRecDepth 100000 in
set_option maxHeartbeats 4000000 in
theorem OnTime_yes (A : Option Addr) (n c : Nat) (l : List Jb) (w : World) (rA : JobsH w A n l) (hv : validB l = true) : Calls Try.prog 35 #[.slice A n c] w (OnTimeR w l n) := by
  have hn : n ≤ 64 := by
    have h := hv
    unfold validB at h
    simp only [Bool.and_eq_true, decide_eq_true_eq] at h
    rw [← rA.1]; exact h.1
  have HC : Hid (∀ (k : Nat) (x : Jb), l[k]? = some x → Calm x) := fun k x h => validB_calm hv h
  have HF := Lib.hid (validB_fair hv)
  have HV := Lib.hid hv
  have hw1 : Below w.heap.size w (w.alloc (.cells #[.slice A n c] 22)) := (Below.refl _ _).alloc (Nat.le_refl _) _
  have k1 := Blk.new w 22 #[.slice A n c]
  have M1 := Lib.hid (Check_yes A n c l _ (rA.later hw1) hv)
  have x0 := k1.cell
  have y0 := k1.lt
  obtain ⟨bx, hbx⟩ : ∃ bx, bx = w.heap.size := ⟨_, rfl⟩
  rw [← hbx] at k1 x0 y0
  have HBx := Lib.hid hbx
  clear hv hbx
  go_enter Try.func35, Try.ntmps35
  go_wp2_with fail
  rw [← HBx.out]
  refine M1.out.mono ?_
  rintro e w1 ⟨rfl, hb1⟩
  have k2 := k1.later hb1
  have hw2 := hw1.trans (hb1.mono hw1.size)
  obtain ⟨b, hbb⟩ : ∃ b, b = w1.heap.size := ⟨_, rfl⟩
  have hbw : w.heap.size ≤ b := by rw [hbb]; exact hw2.size
  have hbxb : bx < b := by rw [hbb]; exact k2.lt
  have h3 := Blk.new w1 80 #[.slice none 0 0, .func (.func 71) #[] #[.pointer (some ⟨bx, 0, none⟩)]]
  have hb3 := (Below.refl w1.heap.size w1).alloc (Nat.le_refl _) (.cells #[.slice none 0 0, .func (.func 71) #[] #[.pointer (some ⟨bx, 0, none⟩)]] 80)
  have k3 := k2.later hb3
  have hw3 := hw2.trans (hb3.mono hw2.size)
  rw [← hbb] at h3
  have HBb := Lib.hid hbb
  clear x0 y0 M1 k1 hw1 hb1 k2 hbb
  have x2 := k3.cell
  have y2 := k3.lt
  go_wp2_with fail
  rw [← HBb.out]
  revert h3 k3 hw3 x2 y2
  generalize w1.alloc (.cells #[.slice none 0 0, .func (.func 71) #[] #[.pointer (some ⟨bx, 0, none⟩)]] 80) = w3
  intro h3 k3 hw3 x2 y2
  clear hb3 hw2
  refine wp_region_held_drew (S := fun V => Below w3.heap.size w3 V) (by kernel_rfl) ((Below.refl _ _).drew) (fun hHeld => ?_)
  refine wpAnyH_take (i := 0) (v := ?_) rfl (by kernel_rfl) (by kernel_rfl) (by kernel_rfl) (fun _ _ _ h => h) (Or.inl ⟨by rfl, ?hy⟩) (by assumption) ?_
  case hy => (intro w hSw; have hcw : ∀ p o, p < w3.heap.size → w.cell? ⟨p, o, none⟩ = w3.cell? ⟨p, o, none⟩ := (fun p o h => hSw.cell (p := ⟨p, o, none⟩) h); clear hSw; go_simp; try with_reducible rfl)
  refine wpAnyH_take (i := 1) (v := ?_) rfl (by kernel_rfl) (by kernel_rfl) (by kernel_rfl) (fun _ _ _ h => h) (Or.inl ⟨by rfl, ?hy⟩) (by assumption) ?_
  case hy => (intro w hSw; have hcw : ∀ p o, p < w3.heap.size → w.cell? ⟨p, o, none⟩ = w3.cell? ⟨p, o, none⟩ := (fun p o h => hSw.cell (p := ⟨p, o, none⟩) h); clear hSw; go_simp; try with_reducible rfl)
  refine wpAnyH_take (i := 2) (v := ?_) rfl (by kernel_rfl) (by kernel_rfl) (by kernel_rfl) (fun _ _ _ h => h) (Or.inl ⟨by rfl, ?hy⟩) (by assumption) ?_
  case hy => (intro w hSw; have hcw : ∀ p o, p < w3.heap.size → w.cell? ⟨p, o, none⟩ = w3.cell? ⟨p, o, none⟩ := (fun p o h => hSw.cell (p := ⟨p, o, none⟩) h); clear hSw; go_simp; try with_reducible rfl)
  refine wpAnyH_take (i := 6) (v := ?_) rfl (by kernel_rfl) (by kernel_rfl) (by kernel_rfl) (fun _ _ _ h => h) (Or.inl ⟨by rfl, ?hy⟩) (by assumption) ?_
  case hy => (intro w hSw; clear hSw; go_simp; try with_reducible rfl)
  simp only [Act.put, List.setIfInBounds_toArray]
  refine wpAnyH_ready (rs := [3]) (by kernel_rfl) (by simp) (AllReadyH.cons rfl (fun K hK => ?_) AllReadyH.nil)
  go_simp
  refine (numbers_any n _ (by omega)).mono ?_
  rintro e w4 ⟨rfl, hR, hb4⟩
  refine hK.out _ _ (hHeld.trans (hb4.mono hHeld.size)) (fun hHeld4 => ?_)
  clear hK K hHeld
  refine wpAnyH_ready (rs := [4]) (by kernel_rfl) (by simp) (AllReadyH.cons rfl (fun K hK => ?_) AllReadyH.nil)
  go_simp
  have hw4 := hw3.trans (hHeld4.mono hw3.size)
  have rN := RowH.of_row hR (nums_length n)
  refine (byDue_any A (some ⟨w3.drew.heap.size, 0, none⟩) n c n n l (nums n) w4 (rA.later hw4) rN ⟨fun x hx => mem_nums.1 hx, ?_⟩ (by omega)).mono ?_
  · unfold nums
    rw [List.pairwise_map]
    exact List.pairwise_lt_range.imp fun {a b} h => by show (a : Int) < b; omega
  rintro e w5 ⟨R, cR, d, rfl, hP, hS', hRd, hb5⟩
  refine hK.out _ _ (hHeld4.trans (hb5.mono hHeld4.size)) (fun hHeld5 => ?_)
  clear hK K hHeld4 hb4 hR rN hw4 hb5
  refine wpAnyH_ready (rs := [5]) (by kernel_rfl) (by simp) (AllReadyH.cons rfl (fun K hK => ?_) AllReadyH.nil)
  go_simp
  refine hK.out _ _ hHeld5 (fun _ => ?_)
  clear hK K
  refine wpAnyH_done (by kernel_rfl) ?_ _
  have hB5 := h3.later hHeld5
  have k5 := k3.later hHeld5
  have hw5 := hw3.trans (hHeld5.mono hw3.size)
  obtain ⟨M, hM⟩ : ∃ M, M = w5.heap.size := ⟨_, rfl⟩
  have hbM : b < M := by rw [hM]; exact hB5.lt
  have hwM : w.heap.size ≤ M := by rw [hM]; exact hw5.size
  have hRS : Hid (0 < n → ∀ g, R = some ⟨g, 0, none⟩ → g < M ∧ g ≠ b) := fun h0 g e => by
    obtain ⟨g', e', hg, hc⟩ := hRd.2 h0
    rw [e] at e'
    cases e'
    refine ⟨by rw [hM]; exact hg, ?_⟩
    rintro rfl
    have h1 := hc 0 (d.getD 0 0) (getD_get (by rw [hRd.1]; exact h0))
    rw [hB5.cell 0] at h1
    simp at h1
  have hS : Hid (∀ k, (fun k => k < M ∧ k ≠ b) k → k < M) := fun k h => h.1
  have hSw : Hid (∀ k, k < w.heap.size → (fun k => k < M ∧ k ≠ b) k) := fun k h => ⟨by omega, by omega⟩
  have hC : Hid (LessC (fun k => k < M ∧ k ≠ b) w5 71 #[.pointer (some ⟨bx, 0, none⟩)] (workLt l) (fun x => 0 ≤ x ∧ x < (n : Int))) := work_less k5 ⟨by omega, by omega⟩ rA hw5 hSw.out
  have h0 : HeapS (fun k => k < M ∧ k ≠ b) M M w5 b (.func (.func 71) #[] #[.pointer (some ⟨bx, 0, none⟩)]) (.slice none 0 0) [] :=
    ⟨hB5, World.ownsRow_nil _ _ _ _, fun h => h.2 rfl, fun k hk => by simp [Value.ownBlock] at hk, by omega⟩
  have HK5 := Lib.hid k5
  have HW5 := Lib.hid hw5
  have HP := Lib.hid hP
  have HSd : Hid (d.Pairwise fun x y => (jat l x).due ≤ (jat l y).due) := hS'.imp due_le
  have HND : Hid d.Nodup := hP.nodup_iff.2 (nums_nodup n)
  have HDm : Hid (∀ x ∈ d, 0 ≤ x ∧ x < (n : Int)) := fun x hx => mem_nums.1 (hP.mem_iff.1 hx)
  have HDl : Hid (d.length = n) := hRd.1
  have HRd := Lib.hid hRd
  have HM := Lib.hid hM
  have hMo0 := Lib.hid (Moo.nil l)
  have hSb : Hid ((fun k => k < M ∧ k ≠ b) bx) := ⟨by omega, by omega⟩
  generalize hSe : (fun k => k < M ∧ k ≠ b) = S at *
  have HSe := Lib.hid hSe
  clear hB5 k5 hw5 hM hP hS' hRd hHeld5 k3 hw3 x2 y2 h3 hSe
  go_wp2_with fail
  go_loopw [8, 27] (fun s i wr => ∃ (k : Nat) (t : Int) (v : Value) (L : List Int), k ≤ n ∧ i = .int .i64 k ∧ s = .int .i64 t ∧ Hid (t = works l L) ∧ 0 ≤ t ∧ t ≤ 640000 ∧ L.length ≤ k ∧ Moo l (d.take k).reverse L ∧ HeapP (workLt l) L L.length ∧ HeapS S M M wr b (.func (.func 71) #[] #[.pointer (some ⟨bx, 0, none⟩)]) v L ∧ Fix S w5 wr) (fun _ i _ => n - (intOf i).toNat)
  case atStart => exact ⟨0, 0, _, [], Nat.zero_le _, rfl, rfl, by show _ = _; simp [works], Int.le_refl _, by omega, by simp, hMo0.out, HeapP.nil _, h0, Fix.refl _ _⟩
  case round =>
    clear h0 hMo0
    obtain ⟨k, t, v, L, hk, rfl, rfl, ht, t0, t1, hLk, hMo, hHP, h, hf⟩ := hrel
    have HMo := Lib.hid hMo
    have HHP := Lib.hid hHP
    have HFx := Lib.hid hf
    have hLD : Hid (∀ z ∈ L, 0 ≤ z ∧ z < (n : Int)) := fun z hz => HDm.out z (List.mem_of_mem_take (List.mem_reverse.1 (hMo.sub z hz)))
    have hwr := HW5.out.trans (hf.below hSw.out)
    clear hMo hHP
    by_cases hlt : k < n
    · have hbt : decide ((k : Int) < (n : Int)) = true := by simp; omega
      have hbt2 : (k : Int) < (n : Int) := by omega
      obtain ⟨go, e1, hgo, co⟩ := (HRd.out.fix hf (fun h0 g e => by rw [← HSe.out]; exact hRS.out h0 g e)).at_ hlt
      subst e1
      have hok : d[k]? = some (d.getD k 0) := getD_get (by rw [HDl.out]; exact hlt)
      have hx := HDm.out _ (List.mem_of_getElem? hok)
      have HKx := Lib.hid hok
      clear hok
      generalize d.getD k 0 = x at *
      obtain ⟨x0, x1⟩ := hx
      obtain ⟨i, rfl⟩ := Int.eq_ofNat_of_zero_le x0
      have hi : i < n := by omega
      have hii : (i : Int) < (n : Int) := by omega
      have PM := Lib.hid (push_h (workLt_lt l) hS.out h (hC.out.at_ hf) hLD.out (i : Int) ⟨x0, x1⟩ (by have := h.2.2.2.2; exact this) (by omega) HHP.out)
      clear x0 h hf
      go_wp2_with fail
      refine PM.out.mono ?_
      rintro e w6 ⟨rfl, v6, L6, hP6, hH6, h6, hf6⟩
      have hf5 := HFx.out.trans hf6
      have hw6 := HW5.out.trans (hf5.below hSw.out)
      have k6 := HK5.out.fix hf5 hSb.out
      have c6 := k6.cell
      have l6 := k6.lt
      obtain ⟨g, B, mB, cB, e1, hg, hj, c0, c1, c2, c3, c4, _⟩ := rA.both hw6 hi
      have hcm := HC.out i _ hj
      obtain ⟨p0, p1, d0, d1, _⟩ := hcm
      have HP6 := Lib.hid hP6
      have HH6 := Lib.hid hH6
      have hxP : Hid ((i : Int) ∉ (d.take k).reverse) := fun hm => by
        have h1 := List.mem_reverse.1 hm
        obtain ⟨q, hq⟩ := List.getElem?_of_mem h1
        obtain ⟨q1, q2⟩ := List.getElem?_eq_some_iff.1 hq
        obtain ⟨r1, r2⟩ := List.getElem?_eq_some_iff.1 HKx.out
        rw [List.length_take] at q1
        rw [List.getElem_take] at q2
        exact (List.pairwise_iff_getElem.1 HND.out) q k (by omega) r1 (by omega) (q2.trans r2.symm)
      have hxD : Hid (∀ z ∈ (d.take k).reverse, (jat l z).due ≤ (jat l (i : Int)).due) := fun z hz => by
        have h1 := List.mem_reverse.1 hz
        obtain ⟨q, hq⟩ := List.getElem?_of_mem h1
        obtain ⟨q1, q2⟩ := List.getElem?_eq_some_iff.1 hq
        obtain ⟨r1, r2⟩ := List.getElem?_eq_some_iff.1 HKx.out
        rw [List.length_take] at q1
        rw [List.getElem_take] at q2
        have := (List.pairwise_iff_getElem.1 HSd.out) q k (by omega) r1 (by omega)
        rwa [q2, r2] at this
      have hrev : Hid ((d.take (k + 1)).reverse = (i : Int) :: (d.take k).reverse) := by
        show _ = _
        rw [List.take_add_one, HKx.out, List.reverse_append]
        rfl
      have hw6s : Hid (works l L6 = t + (jat l (i : Int)).work) := by
        show _ = _
        rw [works_perm l hP6, ht.out]
        simp only [works]
        omega
      have hL6 : L6.length = L.length + 1 := hP6.length_eq
      subst e1
      clear PM hj hP6 hH6 hf6 k6 co hgo
      by_cases hle : t + (jat l (i : Int)).work ≤ (jat l (i : Int)).due
      · have HNx : Hid (Moo l (d.take (k + 1)).reverse L6) := by
          show Moo _ _ _
          rw [hrev.out]
          exact (HMo.out.take HF.out hxP.out hxD.out (by rw [← ht.out]; exact hle)).perm HP6.out
        have HW6 : Hid (t + (jat l (i : Int)).work = works l L6) := hw6s.out.symm
        clear hxP hxD hrev hw6s HKx
        generalize jat l (i : Int) = j at *
        have u1 : decide (t + j.work > j.due) = false := by simp; omega
        have u2 : ¬ j.due < t + j.work := by omega
        go_wp2_with fail
        go_roundw
        case rel => exact ⟨k + 1, t + j.work, v6, L6, by omega, by go_num, rfl, HW6, by omega, by omega, by omega, HNx.out, HH6.out, h6, hf5⟩
        case measure => simp [intOf]; omega
      · have hpos : 0 < L6.length := by omega
        have hy := (HP6.out.mem_iff (a := at_ L6 0)).1 (List.mem_of_getElem? (getD_get hpos))
        have hyD : 0 ≤ at_ L6 0 ∧ at_ L6 0 < (n : Int) := by
          rcases List.mem_cons.1 hy with e | e
          · rw [e]; exact ⟨by omega, hii⟩
          · exact hLD.out _ e
        have htop : Hid (∀ z ∈ (i : Int) :: L, (jat l z).work ≤ (jat l (at_ L6 0)).work) := fun z hz => by
          obtain ⟨q, hq⟩ := List.getElem?_of_mem (HP6.out.mem_iff.2 hz)
          have hq1 := (List.getElem?_eq_some_iff.1 hq).1
          have h1 := HeapP.top (workLt_lt l) HH6.out q hq1
          have e : at_ L6 q = z := by unfold at_; rw [List.getD_eq_getElem?_getD, hq]; rfl
          rw [e] at h1
          unfold workLt at h1
          simp at h1
          exact h1
        have hL6D : Hid (∀ z ∈ L6, 0 ≤ z ∧ z < (n : Int)) := fun z hz => by
          rcases List.mem_cons.1 (HP6.out.mem_iff.1 hz) with e | e
          · rw [e]; exact ⟨by omega, hii⟩
          · exact hLD.out _ e
        have hfirst : Hid (∀ q : Later w6, Hid (Calls Try.prog 69 #[.pointer (some ⟨b, 0, none⟩)] q.val fun e w' => e = .returned (.int .i64 (at_ L6 0)) ∧ ∃ z : Later w6, w' = z.val)) := fun q => later_same (first_h (h6.later q.property) hpos)
        have HLn : Hid (L6.length = L.length + 1) := hL6
        have HP6w := Lib.hid (works_perm l HP6.out)
        have hkey : Hid (∀ L7 : List Int, (at_ L6 0 :: L7).Perm L6 → Moo l (d.take (k + 1)).reverse L7 ∧ works l L7 = t + (jat l (i : Int)).work - (jat l (at_ L6 0)).work ∧ L7.length = L.length) := fun L7 h7 => by
          refine ⟨?_, ?_, ?_⟩
          · rw [hrev.out]
            exact HMo.out.drop HF.out hxP.out hxD.out (by rw [← ht.out]; exact hle) (h7.trans HP6.out) htop.out
          · have h1 := works_perm l h7
            rw [hw6s.out] at h1
            simp only [works] at h1
            omega
          · have := h7.length_eq
            rw [HLn.out] at this
            simpa using this
        have hnn := Lib.hid (fun L7 => works_nonneg l HF.out L7)
        have hm3 := m_first0 b
        simp only [List.map_cons, List.map_nil, String.reduceOfList] at hm3
        clear hxP hxD hrev hw6s HKx hy htop
        obtain ⟨y0, y1⟩ := hyD
        obtain ⟨y, hyy⟩ : ∃ y : Nat, at_ L6 0 = (y : Int) := Int.eq_ofNat_of_zero_le y0
        rw [hyy] at y1 hfirst
        have HY := Lib.hid hyy
        have hyn : y < n := by omega
        obtain ⟨g', B', mB', cB', e1, hg', hj', d0', d1', d2', d3', d4', _⟩ := rA.both hw6 hyn
        cases e1
        have hcm := HC.out y _ hj'
        obtain ⟨q0, q1, _⟩ := hcm
        have hkey2 : Hid (∀ L7 : List Int, (at_ L6 0 :: L7).Perm L6 → Moo l (d.take (k + 1)).reverse L7 ∧ works l L7 = t + (jat l (i : Int)).work - (jat l (y : Int)).work ∧ L7.length = L.length) := fun L7 h7 => by
          have := hkey.out L7 h7
          rw [hyy] at this
          exact this
        clear hj' hyy hkey y0
        generalize jat l (i : Int) = j at *
        generalize jat l (y : Int) = jy at *
        have u1 : decide (t + j.work > j.due) = true := by simp; omega
        have u2 : j.due < t + j.work := by omega
        have hxl := later_cell (w := w6)
        have hwp : IntKind.i64.wrap (t + j.work - jy.work) = t + j.work - jy.work := by rw [IntKind.wrap_i64]; omega
        have H6 := Lib.hid h6
        have HF5 := Lib.hid hf5
        clear h6 hf5
        go_wp2_with fail
        refine wp_region_later (by kernel_rfl) (by kernel_rfl) ?_
        repeat (go_big_quiet_step ((first | (go_at_call 69; exact (hfirst.out _).out))))
        refine wpQuiet_nil ?_
        rintro w7 ⟨⟨_, hb7⟩, rfl⟩
        have h7 := H6.out.later hb7
        have hf7 := HF5.out.trans (Fix.of_below (S := S) hb7 (fun k hk => Nat.lt_of_lt_of_le (hS.out k hk) H6.out.2.2.2.2))
        have QM := Lib.hid (pop_h (workLt_lt l) hS.out h7 (hC.out.at_ hf7) hL6D.out L.length HLn.out (by omega) HH6.out)
        clear hxl hb7 h7 c0 c1 c2 c3 c4 d0' d1' d2' d3' d4' c6 l6 hg hg' hfirst
        go_wp2_with fail
        refine QM.out.mono ?_
        rintro e w8 ⟨r, rfl, v8, L8, hP8, hH8, h8, hf8⟩
        obtain ⟨m1, m2, m3⟩ := hkey2.out L8 hP8
        have m0 := hnn.out L8
        have HM1 := Lib.hid m1
        have HM2 : Hid (t + j.work - jy.work = works l L8) := m2.symm
        have m4 : 0 ≤ t + j.work - jy.work := by rw [← m2]; exact m0
        have m5 := (works_bound HV.out L8).2
        rw [m2] at m5
        have m6 : t + j.work - jy.work ≤ 640000 := by omega
        have HH8 := Lib.hid hH8
        have hf9 := hf7.trans hf8
        clear QM hP8 hH8 m1 m2 m0 hf8 hkey2
        go_wp2_with fail
        go_roundw
        case rel => exact ⟨k + 1, t + j.work - jy.work, v8, L8, by omega, by go_num, rfl, HM2, by omega, by omega, by omega, HM1.out, HH8.out, h8, hf9⟩
        case measure => simp [intOf]; omega
    · obtain rfl : k = n := by omega
      have hbt : decide ((k : Int) < (k : Int)) = false := by simp
      obtain ⟨A9, c9, rfl⟩ := own_slice h.2.1
      have hrow := own_rowH h.2.1
      have hc := h.1.cell
      have hl := h.1.lt
      have hm2 := m_len b
      have HH := Lib.hid h
      have HRow := Lib.hid hrow
      have HWr := Lib.hid hwr
      have hall : Hid (d.take k = d) := List.take_of_length_le (by rw [HDl.out]; exact Nat.le_refl _)
      obtain ⟨q, hq⟩ : ∃ q, q = L.length := ⟨_, rfl⟩
      rw [← hq] at hLk hc hrow
      have HQ := Lib.hid hq
      have LM : Hid (∀ w', Below wr.heap.size wr w' → Calls Try.prog 68 #[.pointer (some ⟨b, 0, none⟩)] w' fun e w'' => e = .returned (.int .i64 q) ∧ w' = w'') := fun w' hb' => by rw [hq]; exact len_h (h.later hb')
      clear h hf hq hwr
      go_wp2_with fail
      refine wp_region_held_drew (S := fun V => Below wr.heap.size wr V) (by kernel_rfl) ((Below.refl _ _).drew) (fun hHeld => ?_)
      refine wpAnyH_take (i := 0) (v := ?_) rfl (by kernel_rfl) (by kernel_rfl) (by kernel_rfl) (fun _ _ _ h => h) (Or.inl ⟨by rfl, ?hy⟩) (by assumption) ?_
      case hy => (intro w hSw; have hcw : ∀ p o, p < wr.heap.size → w.cell? ⟨p, o, none⟩ = wr.cell? ⟨p, o, none⟩ := (fun p o h => hSw.cell (p := ⟨p, o, none⟩) h); clear hSw; go_simp; try with_reducible rfl)
      refine wpAnyH_take (i := 2) (v := ?_) rfl (by kernel_rfl) (by kernel_rfl) (by kernel_rfl) (fun _ _ _ h => h) (Or.inl ⟨by rfl, ?hy⟩) (by assumption) ?_
      case hy => (intro w hSw; have hcw : ∀ p o, p < wr.heap.size → w.cell? ⟨p, o, none⟩ = wr.cell? ⟨p, o, none⟩ := (fun p o h => hSw.cell (p := ⟨p, o, none⟩) h); clear hSw; go_simp; try with_reducible rfl)
      refine wpAnyH_take (i := 3) (v := ?_) rfl (by kernel_rfl) (by kernel_rfl) (by kernel_rfl) (fun _ _ _ h => h) (Or.inl ⟨by rfl, ?hy⟩) (by assumption) ?_
      case hy => (intro w hSw; have hcw : ∀ p o, p < wr.heap.size → w.cell? ⟨p, o, none⟩ = wr.cell? ⟨p, o, none⟩ := (fun p o h => hSw.cell (p := ⟨p, o, none⟩) h); clear hSw; go_simp; try with_reducible rfl)
      refine wpAnyH_take (i := 4) (v := ?_) rfl (by kernel_rfl) (by kernel_rfl) (by kernel_rfl) (fun _ _ _ h => h) (Or.inl ⟨by rfl, ?hy⟩) (by assumption) ?_
      case hy => (intro w hSw; have hcw : ∀ p o, p < wr.heap.size → w.cell? ⟨p, o, none⟩ = wr.cell? ⟨p, o, none⟩ := (fun p o h => hSw.cell (p := ⟨p, o, none⟩) h); clear hSw; go_simp; try with_reducible rfl)
      refine wpAnyH_take (i := 5) (v := ?_) rfl (by kernel_rfl) (by kernel_rfl) (by kernel_rfl) (fun _ _ _ h => h) (Or.inl ⟨by rfl, ?hy⟩) (by assumption) ?_
      case hy => (intro w hSw; have hcw : ∀ p o, p < wr.heap.size → w.cell? ⟨p, o, none⟩ = wr.cell? ⟨p, o, none⟩ := (fun p o h => hSw.cell (p := ⟨p, o, none⟩) h); clear hSw; go_simp; try with_reducible rfl)
      simp only [Act.put, List.setIfInBounds_toArray]
      refine wpAnyH_ready (rs := [1]) (by kernel_rfl) (by simp) (AllReadyH.cons rfl (fun K hK => ?_) AllReadyH.nil)
      go_simp
      refine (LM.out _ hHeld).mono ?_
      rintro e w' ⟨rfl, rfl⟩
      refine hK.out _ _ hHeld (fun _ => ?_)
      clear hK K
      refine wpAnyH_ready (rs := [6]) (by kernel_rfl) (by simp) (AllReadyH.cons rfl (fun K hK => ?_) AllReadyH.nil)
      go_simp
      refine (values_any A9 q c9 _).mono ?_
      rintro e w10 ⟨rfl, rfl⟩
      have hb10 : Below wr.heap.size wr (wr.drew.alloc (.cells #[.slice A9 q c9] 23)) := hHeld.alloc (by simp) _
      refine hK.out _ _ hb10 (fun _ => ?_)
      clear hK K
      have hS2 := sorted_any wr.drew.heap.size (.slice A9 q c9) L (by have := hrow.1; omega) (wr.drew.alloc (.cells #[.slice A9 q c9] 23)) (by simp) ((Blk.new wr.drew 23 #[.slice A9 q c9]).cell 0) ((hrow.later hb10).ints)
      refine wpAnyH_ready (rs := [7]) (by kernel_rfl) (by simp) (AllReadyH.cons rfl (fun K hK => ?_) AllReadyH.nil)
      go_simp
      refine hS2.mono ?_
      rintro e w11 ⟨v11, rfl, hown, hb11⟩
      have hb12 := hb10.trans (hb11.mono hb10.size)
      refine hK.out _ _ hb12 (fun hHeld2 => ?_)
      clear hK K hS2
      have hql : L.length = q := hrow.1
      rw [hql] at hown
      obtain ⟨A11, c11, rfl⟩ := own_slice hown
      have hr11 := own_rowH hown
      have hfin := HWr.out.trans (hb12.mono HWr.out.size)
      have hres : Hid (OnTimeR w l k (.returned (.tuple #[.int .i64 q, .slice A11 q c11, .int .i64 0])) w11) := by
        refine ⟨A11, q, c11, up L, rfl, hr11, ⟨fun x hx => hLD.out x ((up_perm L).mem_iff.1 hx), ?_⟩, (able_perm (up_perm L)).2 HMo.out.able, fun T hT hTd hTa => ?_, hfin⟩
        · have h1 := up_sorted L
          have h2 : (up L).Nodup := (up_perm L).nodup_iff.2 HMo.out.nodup
          exact (h1.and h2).imp fun {x y} h => by
            have := h.1
            have := h.2
            omega
        · rw [← hql]
          refine HMo.out.best hT (fun z hz => ?_) hTa
          rw [hall.out]
          exact List.mem_reverse.2 (HP.out.mem_iff.2 (mem_nums.2 (hTd z hz)))
      clear hown hr11 hb10 hb11 hb12 hfin
      refine wpAnyH_ready (rs := [8]) (by kernel_rfl) (by simp) (AllReadyH.cons rfl (fun K hK => ?_) AllReadyH.nil)
      go_simp
      refine hK.out _ _ hHeld2 (fun _ => ?_)
      clear hK K
      refine wpAnyH_ready (rs := [9]) (by kernel_rfl) (by simp) (AllReadyH.cons rfl (fun K hK => ?_) AllReadyH.nil)
      go_simp
      refine hK.out _ _ hHeld2 (fun _ => ?_)
      clear hK K
      refine wpAnyH_ready (rs := [10]) (by kernel_rfl) (by simp) (AllReadyH.cons rfl (fun K hK => ?_) AllReadyH.nil)
      go_simp
      refine hK.out _ _ hHeld2 (fun _ => ?_)
      clear hK K
      refine wpAnyH_done (by kernel_rfl) ?_ _
      go_wp2_with fail
      (try simp only [Exit.inBlock, Exit.then]); refine bodyPost_ret (results_tmp3 rfl _ _ _) rfl ?_
      exact hres.out
end Go.Proofs.Ytnfcigbiebbjdaa
