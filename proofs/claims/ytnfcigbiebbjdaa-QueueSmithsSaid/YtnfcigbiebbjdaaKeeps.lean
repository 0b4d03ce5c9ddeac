/-
  Does an order keep what each job comes after? As the document tells it.
  Conditions: the jobs are valid, the order has each number once; the slices start at the heads of blocks.
-/
import Derived.Test.YtnfcigbiebbjdaaLawler
namespace Go.Proofs.Ytnfcigbiebbjdaa
open Go.RowKit

theorem kept_iff {l : List Jb} {n : Nat} {o : List Int} {f : Int → Int} (hf : ∀ (t : Nat) (z : Int), o[t]? = some z → f z = t) (ho : isOrd n o) (hup : ∀ i, ∀ a ∈ (jat l i).after, 0 ≤ a ∧ a < i) :
    Kept l o ↔ ∀ i : Int, 0 ≤ i → i < n → ∀ a ∈ (jat l i).after, f a ≤ f i := by
  unfold Kept
  rw [List.pairwise_iff_getElem]
  constructor
  · intro h i i0 i1 a ha
    obtain ⟨s, hs⟩ := List.getElem?_of_mem ((ho.mem i).2 ⟨i0, i1⟩)
    have ha2 := hup i a ha
    obtain ⟨t, ht⟩ := List.getElem?_of_mem ((ho.mem a).2 ⟨ha2.1, by omega⟩)
    rw [hf t a ht, hf s i hs]
    obtain ⟨s1, s2⟩ := List.getElem?_eq_some_iff.1 hs
    obtain ⟨t1, t2⟩ := List.getElem?_eq_some_iff.1 ht
    rcases Nat.lt_or_ge s t with hst | hst
    · exact absurd (by rw [s2, t2]; exact ha) (h s t s1 t1 hst)
    · omega
  · intro h s t s1 t1 hst hm
    have hi := ho.2.2 _ (List.getElem_mem s1)
    have h1 := h _ hi.1 hi.2 _ hm
    rw [hf t _ (List.getElem?_eq_getElem t1), hf s _ (List.getElem?_eq_getElem s1)] at h1
    omega

set_option maxRecDepth 100000 in
set_option maxHeartbeats 4000000 in
theorem Keeps_any (A O : Option Addr) (n c e : Nat) (l : List Jb) (o : List Int) (w : World) (rA : JobsH w A n l) (rO : RowH w O n o) (hv : validB l = true) (ho : isOrd n o) :
    Calls Try.prog 32 #[.slice A n c, .slice O n e] w fun e w' => ∃ v, e = .returned (.bool v) ∧ (v = true ↔ Kept l o) ∧ Below w.heap.size w w' := by
  have hn : n ≤ 64 := by
    have h := hv
    unfold validB at h
    simp only [Bool.and_eq_true, decide_eq_true_eq] at h
    rw [← rA.1]; exact h.1
  have HU : Hid (∀ i, ∀ a ∈ (jat l i).after, 0 ≤ a ∧ a < i) := fun i => validB_up hv i
  have HV := Lib.hid hv
  have HO := Lib.hid ho
  have hmk := make_ints n (by omega)
  clear hv ho
  have hb0 := (Below.refl w.heap.size w).alloc (Nat.le_refl _) (.cells (rowc (List.replicate n 0)) 3)
  have hr0 := RowT.new w n
  go_enter Try.func32, Try.ntmps32
  go_wp2_with fail
  revert hb0 hr0
  generalize hP : w.heap.size = P
  generalize hW0 : w.alloc (.cells (rowc (List.replicate n 0)) 3) = W0
  intro hb0 hr0
  have HP := Lib.hid hP
  clear hW0 hP hmk
  go_loopw [6] (fun i wr => ∃ (k : Nat) (f : Int → Int), k ≤ n ∧ i = .int .i64 k ∧ RowT wr P n f ∧ Hid (∀ (t : Nat) (z : Int), t < k → o[t]? = some z → f z = t) ∧ Below P w wr) (fun i _ => n - (intOf i).toNat)
  case atStart => exact ⟨0, _, Nat.zero_le _, rfl, hr0, fun t z h => absurd h (by omega), hb0⟩
  case round =>
    clear hr0 hb0
    obtain ⟨k, f, hk, rfl, hr, hf, hb⟩ := hrel
    have hb' := hb
    rw [← HP.out] at hb'
    by_cases hlt : k < n
    · have hbt : decide ((k : Int) < (n : Int)) = true := by simp; omega
      have hbt2 : (k : Int) < (n : Int) := by omega
      obtain ⟨g, rfl, hg, hc⟩ := (rO.later hb').at_ hlt
      have hok : o[k]? = some (o.getD k 0) := getD_get (by rw [rO.1]; exact hlt)
      have hx := HO.out.2.2 _ (List.mem_of_getElem? hok)
      have HK := Lib.hid hok
      clear hok
      generalize o.getD k 0 = x at *
      obtain ⟨x0, x1⟩ := hx
      obtain ⟨i, rfl⟩ := Int.eq_ofNat_of_zero_le x0
      have hi : i < n := by omega
      have cP := hr.at_ hi
      have fP := hr.frozen i
      have lP := hr.lt
      have HS := Lib.hid (hr.set_ i (k : Int))
      have HB := Lib.hid (hb.setCell (p := ⟨P, i, none⟩) (Nat.le_refl _) (.int .i64 (k : Int)))
      have HF : Hid (∀ (t : Nat) (z : Int), t < k + 1 → o[t]? = some z → (fun z => if z = (i : Int) then (k : Int) else f z) z = t) := by
        intro t z ht hz
        by_cases e1 : z = (i : Int)
        · subst e1
          have hk1 := HK.out
          obtain ⟨t1, t2⟩ := List.getElem?_eq_some_iff.1 hz
          obtain ⟨k1, k2⟩ := List.getElem?_eq_some_iff.1 hk1
          have hd := List.pairwise_iff_getElem.1 HO.out.2.1
          have : t = k := by
            rcases Nat.lt_trichotomy t k with h | h | h
            · exact absurd (t2.trans k2.symm) (hd t k t1 k1 h)
            · exact h
            · exact absurd (k2.trans t2.symm) (hd k t k1 t1 h)
          subst this
          simp
        · have : t ≠ k := by
            rintro rfl
            rw [HK.out] at hz
            injection hz with hz
            exact e1 hz.symm
          simp only [if_neg e1]
          exact hf.out t z (by omega) hz
      clear hr hf hb x0 x1
      generalize f (i : Int) = y at *
      go_wp2_with fail
      go_roundw
      case rel => exact ⟨k + 1, _, by omega, by go_num, HS.out, HF.out, HB.out⟩
      case measure => simp [intOf]; omega
    · obtain rfl : k = n := by omega
      have hbt : decide ((k : Int) < (k : Int)) = false := by simp
      have hit : ∀ (t : Nat) (z : Int), o[t]? = some z → f z = t := fun t z hz => hf.out t z (by have := (List.getElem?_eq_some_iff.1 hz).1; have := rO.1; omega) hz
      have HI := Lib.hid (kept_iff hit HO.out HU.out)
      have hfb : ∀ z : Int, 0 ≤ z → z < k → 0 ≤ f z ∧ f z < (k : Int) := fun z z0 z1 => by
        obtain ⟨t, ht⟩ := List.getElem?_of_mem ((HO.out.mem z).2 ⟨z0, z1⟩)
        rw [hit t z ht]
        have := (List.getElem?_eq_some_iff.1 ht).1
        have := rO.1
        omega
      clear hf hit hfb
      obtain ⟨W1, hW1⟩ : ∃ W1, W1 = wr := ⟨_, rfl⟩
      subst hW1
      go_wp2_with fail
      go_loopw [7] (fun i wr => ∃ q : Nat, q ≤ k ∧ i = .int .i64 q ∧ Hid (∀ z : Int, 0 ≤ z → z < q → ∀ a ∈ (jat l z).after, f a ≤ f z) ∧ Below W1.heap.size W1 wr) (fun i _ => k - (intOf i).toNat)
      case atStart => exact ⟨0, Nat.zero_le _, rfl, fun z h1 h2 => by omega, Below.refl _ _⟩
      case round =>
        obtain ⟨q, hq, rfl, hA, hb2⟩ := hrel
        obtain ⟨W2, hW2⟩ : ∃ W2, W2 = wr := ⟨_, rfl⟩
        subst hW2
        by_cases hqk : q < k
        · have ubt : decide ((q : Int) < (k : Int)) = true := by simp; omega
          have ubt2 : (q : Int) < (k : Int) := by omega
          have hbw := hb'.trans (hb2.mono hb'.size)
          have hlenq := validB_len HV.out (q : Int)
          go_wp2_with fail
          go_loopw [8] (fun i wr => ∃ y : Nat, y ≤ (jat l q).after.length ∧ i = .int .i64 y ∧ Hid (∀ a ∈ (jat l q).after.take y, f a ≤ f q) ∧ Below W2.heap.size W2 wr) (fun i _ => (jat l q).after.length - (intOf i).toNat)
          case atStart => exact ⟨0, Nat.zero_le _, rfl, fun a h => by simp at h, Below.refl _ _⟩
          case round =>
            obtain ⟨y, hy, rfl, hA2, hb3⟩ := hrel
            have hbv := hbw.trans (hb3.mono hbw.size)
            obtain ⟨g, B, m, cB, e1, hg, hj, c0, c1, c2, c3, c4, hrow⟩ := rA.both hbv hqk
            subst e1
            have hmj : (jat l q).after.length = m := hrow.1
            have HRow := Lib.hid hrow
            clear hj hrow
            by_cases hym : y < m
            · have vbt : decide ((y : Int) < (m : Int)) = true := by simp; omega
              have vbt2 : (y : Int) < (m : Int) := by omega
              obtain ⟨g2, e1, hg2, hc⟩ := (HRow.out.later hbv).at_ hym
              subst e1
              have hxq : (jat l q).after[y]? = some ((jat l q).after.getD y 0) := getD_get (by rw [hmj]; exact hym)
              have hx := HU.out q _ (List.mem_of_getElem? hxq)
              have HX := Lib.hid hxq
              clear hxq
              generalize hxe : (jat l q).after.getD y 0 = x at *
              obtain ⟨x0, x1⟩ := hx
              obtain ⟨i, rfl⟩ := Int.eq_ofNat_of_zero_le x0
              have hi : i < k := by omega
              have hik : (i : Int) < (k : Int) := by omega
              have hr3 := (hr.later hb2).later hb3
              have cI := hr3.at_ hi
              have cQ := hr3.at_ hqk
              have lP := hr3.lt
              have hxl := later_cell (w := wr)
              clear hxe x0 x1
              by_cases hle : f (i : Int) ≤ f (q : Int)
              · have d1 : decide (f (i : Int) > f (q : Int)) = false := by simp; omega
                have d2 : ¬ f (q : Int) < f (i : Int) := by omega
                have HN : Hid (∀ a ∈ (jat l q).after.take (y + 1), f a ≤ f q) := by
                  intro a ha
                  rw [List.take_add_one, HX.out] at ha
                  rcases List.mem_append.1 ha with ha | ha
                  · exact hA2.out a ha
                  · obtain rfl : a = (i : Int) := by simpa using ha
                    exact hle
                clear hle HX hA2 hr3
                go_wp2_with fail
                refine wp_region_later (by kernel_rfl) (by kernel_rfl) ?_
                repeat (go_big_quiet_step (fail))
                refine wpQuiet_nil ?_
                rintro w3 ⟨⟨_, hb4⟩, rfl⟩
                have hb5 := hb3.trans (hb4.mono hb3.size)
                clear cI cQ hxl hb3 hb4 hc c0 c1 c2 c3 c4
                go_wp2_with fail
                go_roundw
                case rel => exact ⟨y + 1, by omega, by go_num, HN.out, hb5⟩
                case measure => simp [intOf]; omega
              · have d1 : decide (f (i : Int) > f (q : Int)) = true := by simp; omega
                have d2 : f (q : Int) < f (i : Int) := by omega
                have HF : Hid (¬ Kept l o) := fun h => hle (HI.out.1 h q (by omega) ubt2 _ (List.mem_of_getElem? HX.out))
                clear hle HX hA2 hr3
                go_wp2_with fail
                refine wp_region_later (by kernel_rfl) (by kernel_rfl) ?_
                repeat (go_big_quiet_step (fail))
                refine wpQuiet_nil ?_
                rintro w3 ⟨⟨_, hb4⟩, rfl⟩
                have hb5 := hbv.trans (hb4.mono hbv.size)
                clear cI cQ hxl hb3 hb4 hc c0 c1 c2 c3 c4
                go_wp2_with fail
                go_ret
                exact ⟨false, rfl, ⟨fun h => (by cases h), fun h => absurd h HF.out⟩, hb5⟩
            · have eym : y = m := by omega
              have vbt : decide ((y : Int) < (m : Int)) = false := by simp; omega
              have HN : Hid (∀ z : Int, 0 ≤ z → z < ((q + 1 : Nat) : Int) → ∀ a ∈ (jat l z).after, f a ≤ f z) := by
                intro z z0 z1 a ha
                by_cases e : z = (q : Int)
                · subst e
                  exact hA2.out a (by rw [List.take_of_length_le (by omega)]; exact ha)
                · exact hA.out z z0 (by omega) a ha
              have hb5 := hb2.trans (hb3.mono hb2.size)
              clear hym
              subst eym
              go_wp2_with fail
              go_roundw
              case rel => exact ⟨q + 1, by omega, by go_num, HN.out, hb5⟩
              case measure => simp [intOf]; omega
        · obtain rfl : q = k := by omega
          have ubt : decide ((q : Int) < (q : Int)) = false := by simp
          have hfin := hb'.trans (hb2.mono hb'.size)
          have HT : Hid (Kept l o) := HI.out.2 hA.out
          go_wp2_with fail
          go_ret
          exact ⟨true, rfl, ⟨fun _ => HT.out, fun _ => rfl⟩, hfin⟩
end Go.Proofs.Ytnfcigbiebbjdaa
