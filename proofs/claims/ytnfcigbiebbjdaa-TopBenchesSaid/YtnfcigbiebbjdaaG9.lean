/-
  The seat's texts SL Keeps CheckN RSmith RSmith2 RLawler in one: the contracts of the functions that the law reaches, and the plain laws that they rest on.
  Conditions: as each theorem states them.
-/
import Derived.Test.YtnfcigbiebbjdaaG7
import Derived.Test.YtnfcigbiebbjdaaG8
namespace Go.Proofs.Ytnfcigbiebbjdaa
open Go.RowKit

theorem cut_after {l : List Jb} {k : Nat} {j : Jb} (h : (l.map cutJ)[k]? = some j) : j.after.length ≤ 1000 := by
  rw [List.getElem?_map] at h
  cases hx : l[k]? with
  | none => rw [hx] at h; simp at h
  | some y =>
    rw [hx] at h
    simp at h
    subst h
    simp only [cutJ, List.length_take]
    omega
theorem smith_min {l : List Jb} {o m : List Int} (hv : validB l = true) (hs : o.Pairwise (leOf (smithC l))) (hp : m.Perm o) : wsum l 0 o ≤ wsum l 0 m :=
  smith_least l (validB_fair hv) o m 0 (hs.imp fun {x y} h => by
    have := h.1
    rw [smithC_neg l (validB_fair hv), Bool.not_eq_true] at this
    exact this) hp

set_option maxRecDepth 100000 in
set_option maxHeartbeats 8000000 in
theorem walkSL (A C : Option Addr) (n c p e : Nat) (x : List Jb) (z : List Int) (w : World) (rA : JobsA w A n x) (hc : n ≤ c) (hnil : A = none → c = 0) (rC : RowI w C p z) :
    Calls Try.prog 3 #[.slice A n c, .slice C p e] w fun e w' => e = .returned (.bool true) ∧ Below w.heap.size w w' := by
  go_enter Try.func3, Try.ntmps3
  go_wp2_with fail
  refine (few_any A n c 30 x w rA hc hnil (by omega)).mono ?_
  rintro e1 w1 ⟨A1, c1, rfl, hJ, hb1⟩
  have hm : ∀ (k : Nat) (j : Jb), ((x.take (fewN n 30)).map cutJ)[k]? = some j → j.after.length ≤ 1000 := fun k j h => cut_after h
  have rC1 := rC.later hb1
  clear rA hnil rC
  generalize (x.take (fewN n 30)).map cutJ = js at *
  generalize hN : js.length = N at *
  have V1 := Lib.hid (Valid_any A1 N c1 js w1 hJ hm)
  clear hm
  by_cases hv : validB js = true
  case neg =>
    rw [Bool.not_eq_true] at hv
    rw [hv] at V1
    go_wp2_with fail
    refine V1.out.mono ?_
    rintro e2 w2 ⟨rfl, hb2⟩
    go_wp2_with fail
    refine (lives_any _).mono ?_
    rintro e3 w3 ⟨rfl, hb3⟩
    have hfin := (hb1.trans (hb2.mono hb1.size)).trans (hb3.mono (Nat.le_trans hb1.size hb2.size))
    go_wp2_with fail
    go_ret
    exact ⟨rfl, hfin⟩
  case pos =>
    have HV := Lib.hid hv
    have HT : Hid (∀ (k : Nat) (x : Jb), js[k]? = some x → Tame x) := fun k x h => validB_tame hv h
    have hN64 : N ≤ 64 := by
      have h := hv
      unfold validB at h
      simp only [Bool.and_eq_true, decide_eq_true_eq] at h
      rw [← hN]; exact h.1
    rw [hv] at V1
    clear hv hN
    go_wp2_with fail
    refine V1.out.mono ?_
    rintro e2 w2 ⟨rfl, hb2⟩
    have hJ2 := hJ.later hb2
    have rC2 := rC1.later hb2
    have hw2 := hb1.trans (hb2.mono hb1.size)
    have S1 := Lib.hid (Smith_yes A1 N c1 js w2 hJ2 HV.out)
    clear V1 hJ rC1 hb1 hb2
    go_wp2_with fail
    refine S1.out.mono ?_
    rintro e3 w3 ⟨R, o, rfl, hP, hS, hR, hb3⟩
    have HP := Lib.hid hP
    have HS := Lib.hid hS
    have HOr := Lib.hid (isOrd_of_perm hP)
    obtain ⟨n1, hn1⟩ : ∃ n1, n1 = wsum js 0 o := ⟨_, rfl⟩
    rw [← hn1]
    have HN1 := Lib.hid hn1
    have hin : ∀ q ∈ o, 0 ≤ q ∧ q < (N : Int) := fun q hq => mem_nums.1 (hP.mem_iff.1 hq)
    have HIn := Lib.hid hin
    have hJ3 := hJ2.later hb3
    have rC3 := rC2.later hb3
    have hw3 := hw2.trans (hb3.mono hw2.size)
    have O1 := Lib.hid (Order_yes (some ⟨R, 0, none⟩) N N o w3 hR HOr.out (by omega))
    clear S1 hP hS hn1 hin hJ2 rC2 hw2 hb3
    have t1 : ((n1 : Int) != n1) = false := by simp
    go_wp2_with fail
    refine O1.out.mono ?_
    rintro e4 w4 ⟨rfl, hb4⟩
    have hR4 := hR.later hb4
    have hJ4 := hJ3.later hb4
    have rC4 := rC3.later hb4
    have hw4 := hw3.trans (hb4.mono hw3.size)
    have L1 := Lib.hid (rWeighted_any A1 (some ⟨R, 0, none⟩) N c1 N N js o w4 hJ4 hR4 HT.out HIn.out (by omega))
    rw [← HN1.out] at L1
    clear O1 hR hJ3 rC3 hw3 hb4
    go_wp2_with fail
    refine L1.out.mono ?_
    rintro e5 w' ⟨rfl, rfl⟩
    go_wp2_with fail
    refine (lives_any _).mono ?_
    rintro e6 w5 ⟨rfl, hb5⟩
    have hR5 := hR4.later hb5
    have hJ5 := hJ4.later hb5
    have rC5 := rC4.later hb5
    have hw5 := hw4.trans (hb5.mono hw4.size)
    have X1 := Lib.hid (mixed_any (some ⟨R, 0, none⟩) C N N p e o z w5 hR5 rC5 (by omega))
    clear L1 hR4 hJ4 rC4 hw4 hb5
    go_wp2_with fail
    refine X1.out.mono ?_
    rintro e7 w6 ⟨D, cd, o2, rfl, hP2, hR2, hb6⟩
    have hJ6 := hJ5.later hb6
    have hw6 := hw5.trans (hb6.mono hw5.size)
    have L2 := Lib.hid (rWeighted_any A1 D N c1 N cd js o2 w6 hJ6 hR2 HT.out (fun q hq => HIn.out q (hP2.mem_iff.1 hq)) (by omega))
    have hle := smith_min HV.out HS.out hP2
    rw [← HN1.out] at hle
    generalize wsum js 0 o2 = n2 at *
    have t2 : decide (n2 < n1) = false := by simp; omega
    have t2i : ¬ n2 < n1 := by omega
    clear X1 hR5 hJ5 rC5 hw5 hb6 hP2 hR2 hle
    go_wp2_with fail
    refine L2.out.mono ?_
    rintro e8 w' ⟨rfl, rfl⟩
    by_cases h5 : 5 < N
    · have d5 : decide ((N : Int) > 5) = true := by simp; omega
      have d5i : (5 : Int) < (N : Int) := by omega
      go_wp2_with fail
      go_ret
      exact ⟨rfl, hw6⟩
    · have d5 : decide ((N : Int) > 5) = false := by simp; omega
      have d5i : ¬ (5 : Int) < (N : Int) := by omega
      go_wp2_with fail
      refine (Orders_any N _ (by omega)).mono ?_
      rintro e10 w9 ⟨v, NN, rfl, hNN, vs, LL, hvs, hown, hrows, hord, hb9⟩
      have HRw := Lib.hid hrows
      have HOd := Lib.hid hord
      obtain ⟨G, cG, rfl⟩ := own_slice hown
      have hJ9 := hJ6.later hb9
      have hw9 := hw6.trans (hb9.mono hw6.size)
      clear hrows hord hb9 L2 hJ6 hw6 t2 t2i
      go_wp2_with fail
      go_loopw [10] (fun i wr => ∃ q : Nat, q ≤ NN ∧ i = .int .i64 q ∧ w9 = wr) (fun i _ => NN - (intOf i).toNat)
      case atStart => exact ⟨0, Nat.zero_le _, rfl, rfl⟩
      case round =>
        obtain ⟨q, hq, rfl, rfl⟩ := hrel
        by_cases hqN : q < NN
        · have hbq : decide ((q : Int) < (NN : Int)) = true := by simp; omega
          have hbq2 : (q : Int) < (NN : Int) := by omega
          obtain ⟨l, hl⟩ : ∃ l, LL[q]? = some l := ⟨_, List.getElem?_eq_getElem (by rw [← HRw.out.1, hvs]; exact hqN)⟩
          obtain ⟨v, hv, hir⟩ := HRw.out.2 q l hl
          obtain ⟨B2, c2, rfl, hlc, hBr⟩ := hir.row
          have hlp := HOd.out l (List.mem_of_getElem? hl)
          obtain ⟨g2, cap2, e1, hg1, hg2⟩ := hown.form (by omega)
          cases e1
          have hcell := hown.cellAt q (by omega)
          rw [hv] at hcell
          have hll : l.length = N := by rw [hlp.length_eq, nums_length]
          rw [hll] at hBr hcell
          have L4 := Lib.hid (rWeighted_any A1 (some ⟨B2, 0, none⟩) N c1 N c2 js l w9 hJ9 hBr HT.out (fun q hq => mem_nums.1 (hlp.mem_iff.1 hq)) (by omega))
          have hle := smith_min HV.out HS.out (hlp.trans HP.out.symm)
          rw [← HN1.out] at hle
          generalize wsum js 0 l = n3 at *
          have t3 : decide (n3 < n1) = false := by simp; omega
          have t3i : ¬ n3 < n1 := by omega
          clear hv hir hlp hl hle hBr hll hlc
          go_wp2_with fail
          refine L4.out.mono ?_
          rintro e11 w' ⟨rfl, rfl⟩
          go_wp2_with fail
          go_roundw
          case rel => exact ⟨q + 1, by omega, by go_num, trivial⟩
          case measure => simp [intOf]; omega
        · obtain rfl : q = NN := by omega
          have hbq : decide ((q : Int) < (q : Int)) = false := by simp
          go_wp2_with fail
          go_ret
          exact ⟨rfl, hw9⟩
end Go.Proofs.Ytnfcigbiebbjdaa
namespace Go.Proofs.Ytnfcigbiebbjdaa
open Go.RowKit

theorem kept_iff {l : List Jb} {n : Nat} {o : List Int} {f : Int → Int} (hf : ∀ (t : Nat) (z : Int), o[t]? = some z → f z = t) (ho : isOrd n o) (hup : ∀ i, ∀ a ∈ (jat l i).after, 0 ≤ a ∧ a < i) :
    Kept l o ↔ ∀ i : Int, 0 ≤ i → i < n → ∀ a ∈ (jat l i).after, f a ≤ f i := by
  unfold Kept
  rw [List.pairwise_iff_getElem]
  constructor
  · intro h i i0 i1 a ha
    obtain ⟨s, hs⟩ := List.getElem?_of_mem ((ho.mem i).2 ⟨i0, i1⟩)
    have ha2 := hup i a ha
    obtain ⟨t, ht⟩ := List.getElem?_of_mem ((ho.mem a).2 ⟨ha2.1, by omega⟩)
    rw [hf t a ht, hf s i hs]
    obtain ⟨s1, s2⟩ := List.getElem?_eq_some_iff.1 hs
    obtain ⟨t1, t2⟩ := List.getElem?_eq_some_iff.1 ht
    rcases Nat.lt_or_ge s t with hst | hst
    · exact absurd (by rw [s2, t2]; exact ha) (h s t s1 t1 hst)
    · omega
  · intro h s t s1 t1 hst hm
    have hi := ho.2.2 _ (List.getElem_mem s1)
    have h1 := h _ hi.1 hi.2 _ hm
    rw [hf t _ (List.getElem?_eq_getElem t1), hf s _ (List.getElem?_eq_getElem s1)] at h1
    omega

set_option maxRecDepth 100000 in
set_option maxHeartbeats 4000000 in
theorem Keeps_any (A O : Option Addr) (n c e : Nat) (l : List Jb) (o : List Int) (w : World) (rA : JobsH w A n l) (rO : RowH w O n o) (hv : validB l = true) (ho : isOrd n o) :
    Calls Try.prog 32 #[.slice A n c, .slice O n e] w fun e w' => ∃ v, e = .returned (.bool v) ∧ (v = true ↔ Kept l o) ∧ Below w.heap.size w w' := by
  have hn : n ≤ 64 := by
    have h := hv
    unfold validB at h
    simp only [Bool.and_eq_true, decide_eq_true_eq] at h
    rw [← rA.1]; exact h.1
  have HU : Hid (∀ i, ∀ a ∈ (jat l i).after, 0 ≤ a ∧ a < i) := fun i => validB_up hv i
  have HV := Lib.hid hv
  have HO := Lib.hid ho
  have hmk := make_ints n (by omega)
  clear hv ho
  have hb0 := (Below.refl w.heap.size w).alloc (Nat.le_refl _) (.cells (rowc (List.replicate n 0)) 3)
  have hr0 := RowT.new w n
  go_enter Try.func32, Try.ntmps32
  go_wp2_with fail
  revert hb0 hr0
  generalize hP : w.heap.size = P
  generalize hW0 : w.alloc (.cells (rowc (List.replicate n 0)) 3) = W0
  intro hb0 hr0
  have HP := Lib.hid hP
  clear hW0 hP hmk
  go_loopw [6] (fun i wr => ∃ (k : Nat) (f : Int → Int), k ≤ n ∧ i = .int .i64 k ∧ RowT wr P n f ∧ Hid (∀ (t : Nat) (z : Int), t < k → o[t]? = some z → f z = t) ∧ Below P w wr) (fun i _ => n - (intOf i).toNat)
  case atStart => exact ⟨0, _, Nat.zero_le _, rfl, hr0, fun t z h => absurd h (by omega), hb0⟩
  case round =>
    clear hr0 hb0
    obtain ⟨k, f, hk, rfl, hr, hf, hb⟩ := hrel
    have hb' := hb
    rw [← HP.out] at hb'
    by_cases hlt : k < n
    · have hbt : decide ((k : Int) < (n : Int)) = true := by simp; omega
      have hbt2 : (k : Int) < (n : Int) := by omega
      obtain ⟨g, rfl, hg, hc⟩ := (rO.later hb').at_ hlt
      have hok : o[k]? = some (o.getD k 0) := getD_get (by rw [rO.1]; exact hlt)
      have hx := HO.out.2.2 _ (List.mem_of_getElem? hok)
      have HK := Lib.hid hok
      clear hok
      generalize o.getD k 0 = x at *
      obtain ⟨x0, x1⟩ := hx
      obtain ⟨i, rfl⟩ := Int.eq_ofNat_of_zero_le x0
      have hi : i < n := by omega
      have cP := hr.at_ hi
      have fP := hr.frozen i
      have lP := hr.lt
      have HS := Lib.hid (hr.set_ i (k : Int))
      have HB := Lib.hid (hb.setCell (p := ⟨P, i, none⟩) (Nat.le_refl _) (.int .i64 (k : Int)))
      have HF : Hid (∀ (t : Nat) (z : Int), t < k + 1 → o[t]? = some z → (fun z => if z = (i : Int) then (k : Int) else f z) z = t) := by
        intro t z ht hz
        by_cases e1 : z = (i : Int)
        · subst e1
          have hk1 := HK.out
          obtain ⟨t1, t2⟩ := List.getElem?_eq_some_iff.1 hz
          obtain ⟨k1, k2⟩ := List.getElem?_eq_some_iff.1 hk1
          have hd := List.pairwise_iff_getElem.1 HO.out.2.1
          have : t = k := by
            rcases Nat.lt_trichotomy t k with h | h | h
            · exact absurd (t2.trans k2.symm) (hd t k t1 k1 h)
            · exact h
            · exact absurd (k2.trans t2.symm) (hd k t k1 t1 h)
          subst this
          simp
        · have : t ≠ k := by
            rintro rfl
            rw [HK.out] at hz
            injection hz with hz
            exact e1 hz.symm
          simp only [if_neg e1]
          exact hf.out t z (by omega) hz
      clear hr hf hb x0 x1
      generalize f (i : Int) = y at *
      go_wp2_with fail
      go_roundw
      case rel => exact ⟨k + 1, _, by omega, by go_num, HS.out, HF.out, HB.out⟩
      case measure => simp [intOf]; omega
    · obtain rfl : k = n := by omega
      have hbt : decide ((k : Int) < (k : Int)) = false := by simp
      have hit : ∀ (t : Nat) (z : Int), o[t]? = some z → f z = t := fun t z hz => hf.out t z (by have := (List.getElem?_eq_some_iff.1 hz).1; have := rO.1; omega) hz
      have HI := Lib.hid (kept_iff hit HO.out HU.out)
      have hfb : ∀ z : Int, 0 ≤ z → z < k → 0 ≤ f z ∧ f z < (k : Int) := fun z z0 z1 => by
        obtain ⟨t, ht⟩ := List.getElem?_of_mem ((HO.out.mem z).2 ⟨z0, z1⟩)
        rw [hit t z ht]
        have := (List.getElem?_eq_some_iff.1 ht).1
        have := rO.1
        omega
      clear hf hit hfb
      obtain ⟨W1, hW1⟩ : ∃ W1, W1 = wr := ⟨_, rfl⟩
      subst hW1
      go_wp2_with fail
      go_loopw [7] (fun i wr => ∃ q : Nat, q ≤ k ∧ i = .int .i64 q ∧ Hid (∀ z : Int, 0 ≤ z → z < q → ∀ a ∈ (jat l z).after, f a ≤ f z) ∧ Below W1.heap.size W1 wr) (fun i _ => k - (intOf i).toNat)
      case atStart => exact ⟨0, Nat.zero_le _, rfl, fun z h1 h2 => by omega, Below.refl _ _⟩
      case round =>
        obtain ⟨q, hq, rfl, hA, hb2⟩ := hrel
        obtain ⟨W2, hW2⟩ : ∃ W2, W2 = wr := ⟨_, rfl⟩
        subst hW2
        by_cases hqk : q < k
        · have ubt : decide ((q : Int) < (k : Int)) = true := by simp; omega
          have ubt2 : (q : Int) < (k : Int) := by omega
          have hbw := hb'.trans (hb2.mono hb'.size)
          have hlenq := validB_len HV.out (q : Int)
          go_wp2_with fail
          go_loopw [8] (fun i wr => ∃ y : Nat, y ≤ (jat l q).after.length ∧ i = .int .i64 y ∧ Hid (∀ a ∈ (jat l q).after.take y, f a ≤ f q) ∧ Below W2.heap.size W2 wr) (fun i _ => (jat l q).after.length - (intOf i).toNat)
          case atStart => exact ⟨0, Nat.zero_le _, rfl, fun a h => by simp at h, Below.refl _ _⟩
          case round =>
            obtain ⟨y, hy, rfl, hA2, hb3⟩ := hrel
            have hbv := hbw.trans (hb3.mono hbw.size)
            obtain ⟨g, B, m, cB, e1, hg, hj, c0, c1, c2, c3, c4, hrow⟩ := rA.both hbv hqk
            subst e1
            have hmj : (jat l q).after.length = m := hrow.1
            have HRow := Lib.hid hrow
            clear hj hrow
            by_cases hym : y < m
            · have vbt : decide ((y : Int) < (m : Int)) = true := by simp; omega
              have vbt2 : (y : Int) < (m : Int) := by omega
              obtain ⟨g2, e1, hg2, hc⟩ := (HRow.out.later hbv).at_ hym
              subst e1
              have hxq : (jat l q).after[y]? = some ((jat l q).after.getD y 0) := getD_get (by rw [hmj]; exact hym)
              have hx := HU.out q _ (List.mem_of_getElem? hxq)
              have HX := Lib.hid hxq
              clear hxq
              generalize hxe : (jat l q).after.getD y 0 = x at *
              obtain ⟨x0, x1⟩ := hx
              obtain ⟨i, rfl⟩ := Int.eq_ofNat_of_zero_le x0
              have hi : i < k := by omega
              have hik : (i : Int) < (k : Int) := by omega
              have hr3 := (hr.later hb2).later hb3
              have cI := hr3.at_ hi
              have cQ := hr3.at_ hqk
              have lP := hr3.lt
              have hxl := later_cell (w := wr)
              clear hxe x0 x1
              by_cases hle : f (i : Int) ≤ f (q : Int)
              · have d1 : decide (f (i : Int) > f (q : Int)) = false := by simp; omega
                have d2 : ¬ f (q : Int) < f (i : Int) := by omega
                have HN : Hid (∀ a ∈ (jat l q).after.take (y + 1), f a ≤ f q) := by
                  intro a ha
                  rw [List.take_add_one, HX.out] at ha
                  rcases List.mem_append.1 ha with ha | ha
                  · exact hA2.out a ha
                  · obtain rfl : a = (i : Int) := by simpa using ha
                    exact hle
                clear hle HX hA2 hr3
                go_wp2_with fail
                refine wp_region_later (by kernel_rfl) (by kernel_rfl) ?_
                repeat (go_big_quiet_step (fail))
                refine wpQuiet_nil ?_
                rintro w3 ⟨⟨_, hb4⟩, rfl⟩
                have hb5 := hb3.trans (hb4.mono hb3.size)
                clear cI cQ hxl hb3 hb4 hc c0 c1 c2 c3 c4
                go_wp2_with fail
                go_roundw
                case rel => exact ⟨y + 1, by omega, by go_num, HN.out, hb5⟩
                case measure => simp [intOf]; omega
              · have d1 : decide (f (i : Int) > f (q : Int)) = true := by simp; omega
                have d2 : f (q : Int) < f (i : Int) := by omega
                have HF : Hid (¬ Kept l o) := fun h => hle (HI.out.1 h q (by omega) ubt2 _ (List.mem_of_getElem? HX.out))
                clear hle HX hA2 hr3
                go_wp2_with fail
                refine wp_region_later (by kernel_rfl) (by kernel_rfl) ?_
                repeat (go_big_quiet_step (fail))
                refine wpQuiet_nil ?_
                rintro w3 ⟨⟨_, hb4⟩, rfl⟩
                have hb5 := hbv.trans (hb4.mono hbv.size)
                clear cI cQ hxl hb3 hb4 hc c0 c1 c2 c3 c4
                go_wp2_with fail
                go_ret
                exact ⟨false, rfl, ⟨fun h => (by cases h), fun h => absurd h HF.out⟩, hb5⟩
            · have eym : y = m := by omega
              have vbt : decide ((y : Int) < (m : Int)) = false := by simp; omega
              have HN : Hid (∀ z : Int, 0 ≤ z → z < ((q + 1 : Nat) : Int) → ∀ a ∈ (jat l z).after, f a ≤ f z) := by
                intro z z0 z1 a ha
                by_cases e : z = (q : Int)
                · subst e
                  exact hA2.out a (by rw [List.take_of_length_le (by omega)]; exact ha)
                · exact hA.out z z0 (by omega) a ha
              have hb5 := hb2.trans (hb3.mono hb2.size)
              clear hym
              subst eym
              go_wp2_with fail
              go_roundw
              case rel => exact ⟨q + 1, by omega, by go_num, HN.out, hb5⟩
              case measure => simp [intOf]; omega
        · obtain rfl : q = k := by omega
          have ubt : decide ((q : Int) < (q : Int)) = false := by simp
          have hfin := hb'.trans (hb2.mono hb'.size)
          have HT : Hid (Kept l o) := HI.out.2 hA.out
          go_wp2_with fail
          go_ret
          exact ⟨true, rfl, ⟨fun _ => HT.out, fun _ => rfl⟩, hfin⟩
end Go.Proofs.Ytnfcigbiebbjdaa
namespace Go.Proofs.Ytnfcigbiebbjdaa
open Go.RowKit

set_option maxHeartbeats 1000000 in
theorem rising_any (A : Option Addr) (n c : Nat) (lim : Int) (l : List Int) (w : World) (rA : RowH w A n l) (hn : n ≤ 1000) :
    Calls Try.prog 78 #[.slice A n c, .int .i64 lim] w fun e w' => e = .returned (.bool (riseB lim (-1) l)) ∧ w = w' := by
  have HR : Hid (riseB lim (-1) l = riseB lim (-1) (l.drop 0)) := rfl
  go_enter Try.func78, Try.ntmps78
  go_wp2_with fail
  go_loopw [5, 10] (fun t i wr => ∃ (k : Nat) (last : Int), k ≤ n ∧ i = .int .i64 k ∧ t = .int .i64 last ∧ Hid (riseB lim (-1) l = riseB lim last (l.drop k)) ∧ w = wr) (fun _ i _ => n - (intOf i).toNat)
  case atStart => exact ⟨0, -1, Nat.zero_le _, rfl, rfl, HR, rfl⟩
  case round =>
    clear HR
    obtain ⟨k, last, hk, rfl, rfl, hL, rfl⟩ := hrel
    by_cases hlt : k < n
    · have hbt : decide ((k : Int) < (n : Int)) = true := by simp; omega
      have hbt2 : (k : Int) < (n : Int) := by omega
      obtain ⟨g, rfl, hg, hc⟩ := rA.at_ hlt
      have hl := getD_get (o := l) (k := k) (by rw [rA.1]; exact hlt)
      have HSt := Lib.hid (riseB_step (lim := lim) (last := last) hl)
      clear hl
      generalize l.getD k 0 = x at *
      by_cases x1 : last < x
      · have d1 : decide (x ≤ last) = false := by simp; omega
        have d2 : ¬ x ≤ last := by omega
        by_cases x2 : x < lim
        · have d3 : decide (x ≥ lim) = false := by simp; omega
          have d4 : ¬ lim ≤ x := by omega
          have HN : Hid (riseB lim (-1) l = riseB lim x (l.drop (k + 1))) := by
            show _ = _
            rw [hL.out, HSt.out, decide_eq_true x1, decide_eq_true x2]; rfl
          clear hL HSt
          go_wp2_with fail
          go_roundw
          case rel => exact ⟨k + 1, x, by omega, by go_num, rfl, HN, trivial⟩
          case measure => simp [intOf]; omega
        · have d3 : decide (x ≥ lim) = true := by simp; omega
          have d4 : lim ≤ x := by omega
          have HN : Hid (riseB lim (-1) l = false) := by
            show _ = _
            rw [hL.out, HSt.out, decide_eq_false x2]; simp
          clear hL HSt
          go_wp2_with fail
          go_ret
          exact ⟨by rw [HN.out]; rfl, rfl⟩
      · have d1 : decide (x ≤ last) = true := by simp; omega
        have d2 : x ≤ last := by omega
        have HN : Hid (riseB lim (-1) l = false) := by
          show _ = _
          rw [hL.out, HSt.out, decide_eq_false x1]; simp
        clear hL HSt
        go_wp2_with fail
        go_ret
        exact ⟨by rw [HN.out]; rfl, rfl⟩
    · obtain rfl : k = n := by omega
      have hbt : decide ((k : Int) < (k : Int)) = false := by simp
      have HN : Hid (riseB lim (-1) l = true) := by
        show _ = _
        rw [hL.out, List.drop_of_length_le (by rw [rA.1]; exact Nat.le_refl _)]; rfl
      go_wp2_with fail
      go_ret
      exact ⟨by rw [HN.out]; rfl, rfl⟩

set_option maxRecDepth 100000 in
set_option maxHeartbeats 4000000 in
theorem Check_no (A : Option Addr) (n c : Nat) (l : List Jb) (w : World) (rA : JobsH w A n l) (hm : ∀ (k : Nat) (j : Jb), l[k]? = some j → j.after.length ≤ 1000) (hn : n ≤ 1000) (hv : validB l = false) :
    Calls Try.prog 50 #[.slice A n c] w fun e w' => e = .returned (.int .i64 1) ∧ Below w.heap.size w w' := by
  have hV : Hid ((decide ((n : Int) ≤ 64) && allB 0 (l.drop 0)) = false) := by
    show _ = _
    rw [← hv]; unfold validB; rw [rA.1]
    congr 1
    simp
    omega
  have HM := Lib.hid hm
  clear hm hv
  have hd : decide ((n : Int) ≤ 64) = decide ((n : Int) ≤ 64) := rfl
  generalize hdd : decide ((n : Int) ≤ 64) = d at hV hd
  clear hd
  go_enter Try.func50, Try.ntmps50
  go_wp2_with fail
  go_loopw [3, 11] (fun t i wr => ∃ (k : Nat) (b : Bool), k ≤ n ∧ i = .int .i64 k ∧ t = .bool b ∧ Hid ((b && allB k (l.drop k)) = false) ∧ Below w.heap.size w wr) (fun _ i _ => n - (intOf i).toNat)
  case atStart => exact ⟨0, d, Nat.zero_le _, rfl, rfl, hV, Below.refl _ _⟩
  case round =>
    clear hV hdd
    obtain ⟨k, b, hk, rfl, rfl, hB, hb⟩ := hrel
    by_cases hlt : k < n
    · have hbt : decide ((k : Int) < (n : Int)) = true := by simp; omega
      have hbt2 : (k : Int) < (n : Int) := by omega
      obtain ⟨g, j, rfl, hg, hj, h0, h1, h2, h3, B, m, c', h4, h5⟩ := (rA.later hb).at_ hlt
      have hlen := HM.out k j hj
      have HS := Lib.hid (allB_drop hj)
      have hb1 := hb.alloc hb.size (.cells #[.int .i64 j.work, .int .i64 j.rel, .int .i64 j.due, .int .i64 j.wt, .slice B m c'] 43)
      have hJ : jobB k j = (decide (1 ≤ j.work ∧ j.work ≤ 10000 ∧ 0 ≤ j.rel ∧ j.rel ≤ 640000 ∧ 0 ≤ j.due ∧ j.due ≤ 640000 ∧ 0 ≤ j.wt ∧ j.wt ≤ 1000) && riseB k (-1) j.after) := rfl
      have HJ := Lib.hid hJ
      clear hj hJ
      cases b with
      | false =>
        clear HS HJ hB h5
        go_wp2_with fail
        go_roundw
        case rel => exact ⟨k + 1, false, by omega, by go_num, rfl, rfl, hb1⟩
        case measure => simp [intOf]; omega
      | true =>
        by_cases j0 : 1 ≤ j.work
        case neg =>
          have HN : Hid ((false && allB (k + 1) (l.drop (k + 1))) = false) := rfl
          have n1 : decide (j.work ≥ 1) = false := by simp; omega
          have n2 : j.work < 1 := by omega
          clear HS HJ hB h5 j0
          go_wp2_with fail
          go_roundw
          case rel => exact ⟨k + 1, false, by omega, by go_num, rfl, HN, hb1⟩
          case measure => simp [intOf]; omega
        by_cases j1 : j.work ≤ 10000
        case neg =>
          have HN : Hid ((false && allB (k + 1) (l.drop (k + 1))) = false) := rfl
          have n1 : decide (j.work ≤ 10000) = false := by simp; omega
          have n2 : 10000 < j.work := by omega
          clear HS HJ hB h5 j1
          go_wp2_with fail
          go_roundw
          case rel => exact ⟨k + 1, false, by omega, by go_num, rfl, HN, hb1⟩
          case measure => simp [intOf]; omega
        by_cases j2 : 0 ≤ j.rel
        case neg =>
          have HN : Hid ((false && allB (k + 1) (l.drop (k + 1))) = false) := rfl
          have n1 : decide (j.rel ≥ 0) = false := by simp; omega
          have n2 : j.rel < 0 := by omega
          clear HS HJ hB h5 j2
          go_wp2_with fail
          go_roundw
          case rel => exact ⟨k + 1, false, by omega, by go_num, rfl, HN, hb1⟩
          case measure => simp [intOf]; omega
        by_cases j3 : j.rel ≤ 640000
        case neg =>
          have HN : Hid ((false && allB (k + 1) (l.drop (k + 1))) = false) := rfl
          have n1 : decide (j.rel ≤ 640000) = false := by simp; omega
          have n2 : 640000 < j.rel := by omega
          clear HS HJ hB h5 j3
          go_wp2_with fail
          go_roundw
          case rel => exact ⟨k + 1, false, by omega, by go_num, rfl, HN, hb1⟩
          case measure => simp [intOf]; omega
        by_cases j4 : 0 ≤ j.due
        case neg =>
          have HN : Hid ((false && allB (k + 1) (l.drop (k + 1))) = false) := rfl
          have n1 : decide (j.due ≥ 0) = false := by simp; omega
          have n2 : j.due < 0 := by omega
          clear HS HJ hB h5 j4
          go_wp2_with fail
          go_roundw
          case rel => exact ⟨k + 1, false, by omega, by go_num, rfl, HN, hb1⟩
          case measure => simp [intOf]; omega
        by_cases j5 : j.due ≤ 640000
        case neg =>
          have HN : Hid ((false && allB (k + 1) (l.drop (k + 1))) = false) := rfl
          have n1 : decide (j.due ≤ 640000) = false := by simp; omega
          have n2 : 640000 < j.due := by omega
          clear HS HJ hB h5 j5
          go_wp2_with fail
          go_roundw
          case rel => exact ⟨k + 1, false, by omega, by go_num, rfl, HN, hb1⟩
          case measure => simp [intOf]; omega
        by_cases j6 : 0 ≤ j.wt
        case neg =>
          have HN : Hid ((false && allB (k + 1) (l.drop (k + 1))) = false) := rfl
          have n1 : decide (j.wt ≥ 0) = false := by simp; omega
          have n2 : j.wt < 0 := by omega
          clear HS HJ hB h5 j6
          go_wp2_with fail
          go_roundw
          case rel => exact ⟨k + 1, false, by omega, by go_num, rfl, HN, hb1⟩
          case measure => simp [intOf]; omega
        by_cases j7 : j.wt ≤ 1000
        case neg =>
          have HN : Hid ((false && allB (k + 1) (l.drop (k + 1))) = false) := rfl
          have n1 : decide (j.wt ≤ 1000) = false := by simp; omega
          have n2 : 1000 < j.wt := by omega
          clear HS HJ hB h5 j7
          go_wp2_with fail
          go_roundw
          case rel => exact ⟨k + 1, false, by omega, by go_num, rfl, HN, hb1⟩
          case measure => simp [intOf]; omega
        have HN : Hid ((riseB k (-1) j.after && allB (k + 1) (l.drop (k + 1))) = false) := by
          show _ = _
          have h := hB.out
          rw [HS.out, HJ.out, decide_eq_true ⟨j0, j1, j2, j3, j4, j5, j6, j7⟩] at h
          simpa using h
        have M := Lib.hid (rising_any B m c' k j.after (wr.alloc (.cells #[.int .i64 j.work, .int .i64 j.rel, .int .i64 j.due, .int .i64 j.wt, .slice B m c'] 43)) (h5.later ((Below.refl _ _).alloc (Nat.le_refl _) _)) (by have := h5.1; omega))
        generalize riseB k (-1) j.after = rb at *
        clear h5 HS HJ hB
        go_wp2_with fail
        refine M.out.mono ?_
        rintro e w2 ⟨rfl, rfl⟩
        go_wp2_with fail
        go_roundw
        case rel => exact ⟨k + 1, rb, by omega, by go_num, rfl, HN, hb1⟩
        case measure => simp [intOf]; omega
    · obtain rfl : k = n := by omega
      have hbt : decide ((k : Int) < (k : Int)) = false := by simp
      have hbf : b = false := by
        have h := hB.out
        rw [List.drop_of_length_le (by rw [rA.1]; exact Nat.le_refl _)] at h
        cases b with
        | false => rfl
        | true => exact h
      subst hbf
      go_wp2_with fail
      go_ret
      exact ⟨rfl, hb⟩

theorem Smith_no (A : Option Addr) (n c : Nat) (l : List Jb) (w : World) (rA : JobsH w A n l) (hm : ∀ (k : Nat) (j : Jb), l[k]? = some j → j.after.length ≤ 1000) (hn : n ≤ 1000) (hv : validB l = false) :
    Calls Try.prog 19 #[.slice A n c] w fun e w' => e = .returned (.tuple #[.slice none 0 0, .int .i64 0, .int .i64 1]) ∧ Below w.heap.size w w' := by
  have hw2 : Below w.heap.size w (w.alloc (.cells #[.slice A n c] 22)) := (Below.refl _ _).alloc (Nat.le_refl _) _
  have M1 := Lib.hid (Check_no A n c l _ (rA.later hw2) hm hn hv)
  have k2 := Blk.new w 22 #[.slice A n c]
  have x0 := k2.cell
  have y0 := k2.lt
  clear hm
  go_enter Try.func19, Try.ntmps19
  go_wp2_with fail
  refine M1.out.mono ?_
  rintro e w1 ⟨rfl, hb1⟩
  have hw1 := hw2.trans (hb1.mono (by simp))
  clear x0 y0 k2
  go_wp2_with fail
  (try simp only [Exit.inBlock, Exit.then]); refine bodyPost_ret (results_tmp3 rfl _ _ _) rfl ?_
  exact ⟨rfl, hw1⟩
set_option maxRecDepth 100000 in
theorem Lawler_no (A : Option Addr) (n c : Nat) (l : List Jb) (w : World) (rA : JobsH w A n l) (hm : ∀ (k : Nat) (j : Jb), l[k]? = some j → j.after.length ≤ 1000) (hn : n ≤ 1000) (hv : validB l = false) :
    Calls Try.prog 27 #[.slice A n c] w fun e w' => e = .returned (.tuple #[.slice none 0 0, .int .i64 0, .int .i64 1]) ∧ Below w.heap.size w w' := by
  have M1 := Lib.hid (Check_no A n c l w rA hm hn hv)
  clear hm
  go_enter Try.func27, Try.ntmps27
  go_wp2_with fail
  refine M1.out.mono ?_
  rintro e w1 ⟨rfl, hb1⟩
  go_wp2_with fail
  (try simp only [Exit.inBlock, Exit.then]); refine bodyPost_ret (results_tmp3 rfl _ _ _) rfl ?_
  exact ⟨rfl, hb1⟩
end Go.Proofs.Ytnfcigbiebbjdaa
namespace Go.Proofs.Ytnfcigbiebbjdaa
open Go.RowKit

theorem Swo.anti {cf : Int → Int → Int} {x y : Int} (h1 : leOf cf x y) (h2 : leOf cf y x) : x = y := by
  obtain ⟨a1, a2⟩ := h1
  obtain ⟨b1, b2⟩ := h2
  rcases a2 with a2 | a2
  · exact absurd a2 b1
  · rcases b2 with b2 | b2
    · exact absurd b2 a1
    · omega
theorem sorted_uniq {le : Int → Int → Prop} (hanti : ∀ x y, le x y → le y x → x = y) : ∀ {p q : List Int}, p.Perm q → p.Pairwise le → q.Pairwise le → p = q
  | [], q, h, _, _ => (List.nil_perm.1 h).symm
  | a :: p, [], h, _, _ => by have := h.length_eq; simp at this
  | a :: p, b :: q, h, h1, h2 => by
    have h1' := List.pairwise_cons.1 h1
    have h2' := List.pairwise_cons.1 h2
    have e : a = b := by
      have ha : a ∈ b :: q := h.mem_iff.1 (by simp)
      have hb : b ∈ a :: p := h.mem_iff.2 (by simp)
      rcases List.mem_cons.1 ha with e | ha
      · exact e
      · rcases List.mem_cons.1 hb with e | hb
        · exact e.symm
        · exact hanti a b (h1'.1 b hb) (h2'.1 a ha)
    subst e
    rw [sorted_uniq hanti (List.Perm.cons_inv h) h1'.2 h2'.2]
theorem ins_next {cf : Int → Int → Int} (S : Swo cf) {o : List Int} {k : Nat} {q : Nat} (hP : o.Perm (nums k)) (hS : o.Pairwise (leOf cf)) (h1 : ∀ z ∈ o.take q, ¬ cf k z < 0) (h2 : ∀ z, o[q]? = some z → cf k z < 0) :
    (o.take q ++ (k : Int) :: o.drop q).Perm (nums (k + 1)) ∧ (o.take q ++ (k : Int) :: o.drop q).Pairwise (leOf cf) := by
  constructor
  · refine (List.perm_middle.trans (List.Perm.cons _ (by rw [List.take_append_drop]))).trans ?_
    rw [nums_succ]
    exact (List.Perm.cons _ hP).trans (List.perm_append_comm (l₁ := [(k : Int)]))
  · have hlt : ∀ z ∈ o, z < (k : Int) := fun z hz => (mem_nums.1 (hP.mem_iff.1 hz)).2
    refine ins_sorted (by rw [List.take_append_drop]; exact hS) (fun s hs => ?_) (fun s hs => ⟨h1 s hs, .inr (Int.le_of_lt (hlt s (List.mem_of_mem_take hs)))⟩)
    have hql : q < o.length := by
      rcases Nat.lt_or_ge q o.length with h | h
      · exact h
      · rw [List.drop_of_length_le h] at hs; simp at hs
    have hc := h2 _ (List.getElem?_eq_getElem hql)
    have hle : leOf cf k o[q] := ⟨S.asymm _ _ hc, .inl hc⟩
    rw [List.drop_eq_getElem_cons hql] at hs
    rcases List.mem_cons.1 hs with rfl | hs
    · exact hle
    · have hd : (o[q] :: o.drop (q + 1)).Pairwise (leOf cf) := by
        rw [← List.drop_eq_getElem_cons hql]
        exact hS.drop
      exact S.tot.trans _ _ _ hle ((List.pairwise_cons.1 hd).1 s hs)

set_option maxHeartbeats 1000000 in
theorem smaller_any (x y : Jb) (u v : Value) (w : World) (hx : Tame x) (hy : Tame y) :
    Calls Try.prog 63 #[.agg #[.int .i64 x.work, .int .i64 x.rel, .int .i64 x.due, .int .i64 x.wt, u], .agg #[.int .i64 y.work, .int .i64 y.rel, .int .i64 y.due, .int .i64 y.wt, v]] w fun e w' => e = .returned (.bool (smallB x y)) ∧ Below w.heap.size w w' := by
  have hb : Below w.heap.size w ((w.alloc (.cells #[.int .i64 x.work, .int .i64 x.rel, .int .i64 x.due, .int .i64 x.wt, u] 43)).alloc (.cells #[.int .i64 y.work, .int .i64 y.rel, .int .i64 y.due, .int .i64 y.wt, v] 43)) := ((Below.refl _ _).alloc (Nat.le_refl _) _).alloc (by simp) _
  obtain ⟨p0, p1, a0, a1⟩ := hx
  obtain ⟨q0, q1, b0, b1⟩ := hy
  have HS : Hid (smallB x y = if x.wt = 0 ∨ y.wt = 0 then decide (0 < x.wt ∧ y.wt = 0) else decide (x.work * y.wt < y.work * x.wt)) := rfl
  generalize smallB x y = s at *
  generalize x.work = p at *
  generalize x.wt = a at *
  generalize y.work = q at *
  generalize y.wt = b at *
  by_cases h1 : a = 0
  · have e : Hid (s = false) := by show _ = _; rw [HS.out, if_pos (.inl h1), h1]; simp
    clear HS
    subst h1
    go_enter Try.func63, Try.ntmps63
    go_wp2
    go_ret
    exact ⟨by rw [e.out]; rfl, hb⟩
  · have c1 : (a == 0) = false := by simpa using h1
    have c2 : decide (a > 0) = true := by simp; omega
    have c3 : 0 < a := by omega
    by_cases h2 : b = 0
    · have e : Hid (s = true) := by show _ = _; rw [HS.out, if_pos (.inr h2), h2]; simp; omega
      clear HS
      subst h2
      go_enter Try.func63, Try.ntmps63
      go_wp2
      go_ret
      exact ⟨by rw [e.out]; rfl, hb⟩
    · have c4 : (b == 0) = false := by simpa using h2
      have m1 : 0 ≤ p * b := Int.mul_nonneg p0 b0
      have m2 : p * b ≤ 10000 * 1000 := Int.mul_le_mul p1 b1 b0 (by omega)
      have m3 : 0 ≤ q * a := Int.mul_nonneg q0 a0
      have m4 : q * a ≤ 10000 * 1000 := Int.mul_le_mul q1 a1 a0 (by omega)
      have e : Hid (s = decide (p * b < q * a)) := by show _ = _; rw [HS.out, if_neg (by omega)]
      clear HS
      go_enter Try.func63, Try.ntmps63
      go_wp2
      go_ret
      exact ⟨by rw [e.out]; rfl, hb⟩
end Go.Proofs.Ytnfcigbiebbjdaa
namespace Go.Proofs.Ytnfcigbiebbjdaa
open Go.RowKit

/-- The first q of the order are not behind k. -/
def Passed (l : List Jb) (k : Nat) (o : List Int) (q : Nat) : Prop := ∀ z ∈ o.take q, ¬ smithC l k z < 0
theorem RowI.drop {w : World} {a : Addr} {n m : Nat} {l : List Int} (h : RowI w (some a) n l) (hm : m ≤ n) : RowI w (some (a.add m)) (n - m) (l.drop m) :=
  ⟨by rw [List.length_drop, h.1], fun h0 => by
    obtain ⟨a', e, hg, hc⟩ := h.2 (by omega)
    cases e
    refine ⟨_, rfl, by rw [add_block]; exact hg, fun k v hk => ?_⟩
    rw [List.getElem?_drop] at hk
    rw [Addr.add_add]
    exact hc _ _ hk⟩
theorem own_form {w : World} {base n : Nat} {v : Value} {xs : List Value} (h : w.ownsRow base 3 1 v n xs) (hn : 0 < n) : ∃ g cap, v = .slice (some ⟨g, 0, none⟩) n cap ∧ n ≤ cap := by
  rcases h.2 with ⟨_, h2⟩ | ⟨g, cap, cur, h1, _, _, h2, _⟩
  · omega
  · exact ⟨g, cap, h1, h2⟩
/-- The order so far. -/
def InsK (w0 : World) (l : List Jb) (k : Nat) (v : Value) (wr : World) : Prop :=
  ∃ (g cap : Nat) (o : List Int), v = .slice (some ⟨g, 0, none⟩) k cap ∧ k ≤ cap ∧ o.Perm (nums k) ∧ o.Pairwise (leOf (smithC l)) ∧ wr.ownsRow w0.heap.size 3 1 v k (o.map (Value.int .i64)) ∧ Below w0.heap.size w0 wr
set_option maxRecDepth 100000 in
set_option maxHeartbeats 4000000 in
theorem rSmith_yes (A : Option Addr) (n c : Nat) (l : List Jb) (w : World) (rA : JobsH w A n l) (hv : validB l = true) :
    Calls Try.prog 28 #[.slice A n c] w fun e w' => ∃ v, e = .returned v ∧ InsK w l n v w' := by
  have hn : n ≤ 64 := by
    have h := hv
    unfold validB at h
    simp only [Bool.and_eq_true, decide_eq_true_eq] at h
    rw [← rA.1]; exact h.1
  have HT : Hid (∀ (k : Nat) (x : Jb), l[k]? = some x → Tame x) := fun k x h => validB_tame hv h
  have HF := Lib.hid (validB_fair hv)
  clear hv
  have hb0 : Below w.heap.size w (w.alloc (.cells #[] 3)) := (Below.refl _ _).alloc (Nat.le_refl _) _
  have hmade : (w.alloc (.cells #[] 3)).ownsRow w.heap.size 3 1 (.slice (some ⟨w.heap.size, 0, none⟩) 0 0) 0 (([] : List Int).map (Value.int .i64)) := World.ownsRow_made (base := w.heap.size) (e := 3) (size := 1) w #[] 0 (by simp) (by unfold maxLen; omega) (by simp)
  have hst : InsK w l 0 (.slice (some ⟨w.heap.size, 0, none⟩) 0 0) (w.alloc (.cells #[] 3)) := ⟨_, _, [], rfl, Nat.le_refl _, by simp [nums], List.Pairwise.nil, hmade, hb0⟩
  have HSt := Lib.hid hst
  clear hb0 hmade hst
  go_enter Try.func28, Try.ntmps28
  go_wp2_with fail
  go_loopw [3, 4] (fun v i wr => ∃ k : Nat, k ≤ n ∧ i = .int .i64 k ∧ Hid (InsK w l k v wr)) (fun _ i _ => n - (intOf i).toNat)
  case atStart => exact ⟨0, Nat.zero_le _, rfl, HSt⟩
  case round =>
    clear HSt
    obtain ⟨k, hk, rfl, ⟨g, cap, o, rfl, hkc, hP, hS, hown, hb⟩⟩ := hrel
    obtain ⟨W1, hW1⟩ : ∃ W1, W1 = wr := ⟨_, rfl⟩
    subst hW1
    have HP := Lib.hid hP
    have HS := Lib.hid hS
    have hol : o.length = k := by rw [hP.length_eq, nums_length]
    have HOL := Lib.hid hol
    have HMem : Hid (∀ z ∈ o, 0 ≤ z ∧ z < (k : Int)) := fun z hz => mem_nums.1 (hP.mem_iff.1 hz)
    clear hP hS hol
    by_cases hlt : k < n
    · have hbt : decide ((k : Int) < (n : Int)) = true := by simp; omega
      have hbt2 : (k : Int) < (n : Int) := by omega
      go_wp2_with fail
      go_loopw [5] (fun i wi => ∃ q : Nat, q ≤ k ∧ i = .int .i64 q ∧ Hid (Passed l k o q) ∧ Below W1.heap.size W1 wi) (fun i _ => k - (intOf i).toNat)
      case atStart => exact ⟨0, Nat.zero_le _, rfl, (fun z h => by simp at h), Below.refl _ _⟩
      case round =>
        obtain ⟨q, hq, rfl, hA, hb2⟩ := hrel
        have hbw := hb.trans (hb2.mono hb.size)
        have hown2 := own_later hown hb2
        by_cases hqk : q < k
        · have ubt : decide ((q : Int) < (k : Int)) = true := by simp; omega
          have ubt2 : (q : Int) < (k : Int) := by omega
          obtain ⟨g0, cap0, e1, _, hg2⟩ := hown2.form (by omega)
          cases e1
          have hqo : o[q]? = some (o.getD q 0) := getD_get (by rw [HOL.out]; exact hqk)
          have hc := hown2.cellAt q (by omega)
          rw [List.getElem?_map, hqo] at hc
          have hx := HMem.out _ (List.mem_of_getElem? hqo)
          have HQ := Lib.hid hqo
          clear hqo
          generalize o.getD q 0 = x at *
          obtain ⟨x0, x1⟩ := hx
          obtain ⟨i, rfl⟩ := Int.eq_ofNat_of_zero_le x0
          have hik : i < n := by omega
          have hiki : (i : Int) < (n : Int) := by omega
          have hc2 : wr.cell? ⟨g, q, none⟩ = some (.int .i64 i) := hc
          obtain ⟨ga, B, m, cB, e1, hga, hj, c0, c1, c2, c3, c4, _⟩ := rA.both hbw hlt
          subst e1
          obtain ⟨ga', B', m', cB', e1, _, hj', d0, d1, d2, d3, d4, _⟩ := rA.both hbw hik
          cases e1
          have M1 := fun w => Lib.hid (smaller_any (jat l k) (jat l i) (.slice B m cB) (.slice B' m' cB') w (HT.out k _ hj) (HT.out i _ hj'))
          have HM1 := Lib.hid M1
          have hneg := Lib.hid (smithC_neg l HF.out (k : Int) (i : Int))
          have hxl := later_cell (w := wr)
          clear hc hj hj' M1 x0 x1 hown2
          generalize jat l k = j1 at *
          generalize jat l i = j2 at *
          cases hsm : smallB j1 j2 with
          | false =>
            rw [hsm] at HM1 hneg
            have HN : Hid (Passed l k o (q + 1)) := by
              intro z hz
              rw [List.take_add_one, HQ.out] at hz
              rcases List.mem_append.1 hz with hz | hz
              · exact hA.out z hz
              · obtain rfl : z = (i : Int) := by simpa using hz
                rw [hneg.out]; simp
            clear hneg hA hsm
            go_wp2_with fail
            refine wp_region_later (by kernel_rfl) (by kernel_rfl) ?_
            repeat (go_big_quiet_step ((go_at_call 63; exact later_call (HM1.out _).out)))
            refine wpQuiet_nil ?_
            rintro w3 ⟨⟨_, hb3⟩, rfl⟩
            have hb4 := hb2.trans (hb3.mono hb2.size)
            clear hxl hb2 hbw hb3 HM1 c0 c1 c2 c3 c4 d0 d1 d2 d3 d4 hc2
            go_wp2_with fail
            go_roundw
            case rel => exact ⟨q + 1, by omega, by go_num, HN.out, hb4⟩
            case measure => simp [intOf]; omega
          | true =>
            rw [hsm] at HM1 hneg
            have HN := Lib.hid (ins_next (smith_swo l HF.out) HP.out HS.out hA.out (fun z hz => by
              rw [HQ.out] at hz
              injection hz with hz
              subst hz
              exact hneg.out.2 rfl))
            clear hneg hA hsm
            go_wp2_with fail
            refine wp_region_later (by kernel_rfl) (by kernel_rfl) ?_
            repeat (go_big_quiet_step ((go_at_call 63; exact later_call (HM1.out _).out)))
            refine wpQuiet_nil ?_
            rintro w3 ⟨⟨_, hb3⟩, rfl⟩
            have hb4 := hb2.trans (hb3.mono hb2.size)
            clear hxl hb2 hbw hb3 HM1 c0 c1 c2 c3 c4 d0 d1 d2 d3 d4 hc2
            have hown3 := own_later hown hb4
            have hbw3 := hb.trans (hb4.mono hb.size)
            have hsz := hbw3.size
            have hg3 : g < w3.heap.size := (hown3.lt g rfl).2
            have hm3 : (w3.alloc (.cells #[] 3)).ownsRow w3.heap.size 3 1 (.slice (some ⟨w3.heap.size, 0, none⟩) 0 0) 0 (([] : List Int).map (Value.int .i64)) := World.ownsRow_made (base := w3.heap.size) (e := 3) (size := 1) w3 #[] 0 (Nat.le_refl _) (by unfold maxLen; omega) (by simp)
            have hba := (Below.refl w3.heap.size w3).alloc (Nat.le_refl _) (.cells #[] 3)
            have hsrc := (own_rowI (own_later hown3 hba)).take (m := q) (by omega)
            have hqc : q ≤ cap := by omega
            have hqci : (q : Int) ≤ (cap : Int) := by omega
            clear hown hb hb4
            go_wp2_with (at_builtin; refine app_ints _ rfl (.tmp 35) (.tmp 38) rfl w3.heap.size _ 0 [] rfl hm3 (some ⟨g, 0, none⟩) q cap (o.take q) rfl hsrc (by omega) (by simp) ?_)
            intro v1 w4 hown4 hgr4
            have hb5 : Below w3.heap.size w3 w4 := hba.grown hgr4 (by simp) (fun p hp => by simp [Value.ownBlock] at hp; omega)
            clear hm3 hba hsrc hgr4
            have hsz4 := hb5.size
            have hm4 : Hid ((w4.alloc (.cells #[.int .i64 (k : Int)] 3)).ownsRow w3.heap.size 3 1 v1 q ((o.take q).map (Value.int .i64))) := by
              show World.ownsRow _ _ _ _ _ _ _
              refine own_later ?_ ((Below.refl w4.heap.size w4).alloc (Nat.le_refl _) (.cells #[.int .i64 (k : Int)] 3))
              simpa using hown4
            have hb6 := hb5.alloc hsz4 (.cells #[.int .i64 (k : Int)] 3)
            have hri : RowI (w4.alloc (.cells #[.int .i64 (k : Int)] 3)) (some ⟨w4.heap.size, 0, none⟩) 1 [(k : Int)] := (row_lit w4 [(k : Int)] 1 rfl).rowI
            clear hown4 hb5
            go_wp2_with (at_builtin; refine app_ints _ rfl (.tmp 40) (.tmp 42) rfl w3.heap.size v1 q (o.take q) rfl hm4.out (some ⟨w4.heap.size, 0, none⟩) 1 1 [(k : Int)] rfl hri (by omega) (by simp; omega) ?_)
            intro v2 w5 hown7 hgr5
            have hb7 : Below w3.heap.size w3 w5 := hb6.grown hgr5 hb6.size (fun p hp => (hm4.out.lt p hp).1)
            have hm5 : Hid (w5.ownsRow w3.heap.size 3 1 v2 (q + 1) ((o.take q ++ [(k : Int)]).map (Value.int .i64))) := by show World.ownsRow _ _ _ _ _ _ _; simpa using hown7
            have hsrc : RowI w5 (some ⟨g, q, none⟩) (k - q) (o.drop q) := by have h := RowI.drop (own_rowI (own_later hown3 hb7)) (m := q) (by omega); rwa [Addr.add_lit, Nat.zero_add] at h
            have hsz5 := hb7.size
            clear hm4 hb6 hri hown7 hgr5 hsz4
            go_wp2_with (at_builtin; refine app_ints _ rfl (.tmp 44) (.tmp 47) rfl w3.heap.size v2 (q + 1) (o.take q ++ [(k : Int)]) rfl hm5.out (some ⟨g, q, none⟩) (k - q) (cap - q) (o.drop q) rfl hsrc (by omega) hsz5 ?_)
            intro v3 w6 hown8 hgr6
            have hb8 : Below w3.heap.size w3 w6 := hb7.grown hgr6 hsz5 (fun p hp => (hm5.out.lt p hp).1)
            have hfo : Hid (InsK w l (k + 1) v3 w6) := by
              have hown9 : w6.ownsRow w3.heap.size 3 1 v3 (q + 1 + (k - q)) (((o.take q ++ [(k : Int)]) ++ o.drop q).map (Value.int .i64)) := by simpa using hown8
              have e1 : q + 1 + (k - q) = k + 1 := by omega
              rw [e1] at hown9
              obtain ⟨g9, cap9, ev, hc9⟩ := own_form hown9 (by omega)
              refine ⟨g9, cap9, o.take q ++ (k : Int) :: o.drop q, ev, hc9, HN.out.1, HN.out.2, ?_, hbw3.trans (hb8.mono hsz)⟩
              have e2 : o.take q ++ (k : Int) :: o.drop q = (o.take q ++ [(k : Int)]) ++ o.drop q := by simp
              rw [e2]
              exact World.ownsRow.mono hown9 hsz
            clear hown8 hgr6 hb8 hb7 hm5 hsrc hown3 hbw3
            go_wp2_with fail
            go_roundw
            case rel => exact ⟨k + 1, by omega, by go_num, hfo⟩
            case measure => simp [intOf]; omega
        · obtain rfl : q = k := by omega
          have ubt : decide ((q : Int) < (q : Int)) = false := by simp
          have HN := Lib.hid (ins_next (smith_swo l HF.out) HP.out HS.out hA.out (fun z hz => by
            rw [List.getElem?_eq_none (by rw [HOL.out]; exact Nat.le_refl _)] at hz; cases hz))
          have hxl := later_cell (w := wr)
          go_wp2_with fail
          refine wp_region_later (by kernel_rfl) (by kernel_rfl) ?_
          repeat (go_big_quiet_step (fail))
          refine wpQuiet_nil ?_
          rintro w3 ⟨⟨_, hb3⟩, rfl⟩
          have hb4 := hb2.trans (hb3.mono hb2.size)
          clear hxl hb2 hbw hb3 hown2
          by_cases hcq : q = cap
          · subst hcq
            have hown3 := own_later hown hb4
            have hbw3 := hb.trans (hb4.mono hb.size)
            have hsz := hbw3.size
            have hg3 : g < w3.heap.size := (hown3.lt g rfl).2
            have hm3 : (w3.alloc (.cells #[] 3)).ownsRow w3.heap.size 3 1 (.slice (some ⟨w3.heap.size, 0, none⟩) 0 0) 0 (([] : List Int).map (Value.int .i64)) := World.ownsRow_made (base := w3.heap.size) (e := 3) (size := 1) w3 #[] 0 (Nat.le_refl _) (by unfold maxLen; omega) (by simp)
            have hba := (Below.refl w3.heap.size w3).alloc (Nat.le_refl _) (.cells #[] 3)
            have hsrc := (own_rowI (own_later hown3 hba)).take (m := q) (by omega)
            skip
            clear hown hb hb4
            go_wp2_with (at_builtin; refine app_ints _ rfl (.tmp 35) (.tmp 38) rfl w3.heap.size _ 0 [] rfl hm3 (some ⟨g, 0, none⟩) q q (o.take q) rfl hsrc (by omega) (by simp) ?_)
            intro v1 w4 hown4 hgr4
            have hb5 : Below w3.heap.size w3 w4 := hba.grown hgr4 (by simp) (fun p hp => by simp [Value.ownBlock] at hp; omega)
            clear hm3 hba hsrc hgr4
            have hsz4 := hb5.size
            have hm4 : Hid ((w4.alloc (.cells #[.int .i64 (q : Int)] 3)).ownsRow w3.heap.size 3 1 v1 q ((o.take q).map (Value.int .i64))) := by
              show World.ownsRow _ _ _ _ _ _ _
              refine own_later ?_ ((Below.refl w4.heap.size w4).alloc (Nat.le_refl _) (.cells #[.int .i64 (q : Int)] 3))
              simpa using hown4
            have hb6 := hb5.alloc hsz4 (.cells #[.int .i64 (q : Int)] 3)
            have hri : RowI (w4.alloc (.cells #[.int .i64 (q : Int)] 3)) (some ⟨w4.heap.size, 0, none⟩) 1 [(q : Int)] := (row_lit w4 [(q : Int)] 1 rfl).rowI
            clear hown4 hb5
            go_wp2_with (at_builtin; refine app_ints _ rfl (.tmp 40) (.tmp 42) rfl w3.heap.size v1 q (o.take q) rfl hm4.out (some ⟨w4.heap.size, 0, none⟩) 1 1 [(q : Int)] rfl hri (by omega) (by simp; omega) ?_)
            intro v2 w5 hown7 hgr5
            have hb7 : Below w3.heap.size w3 w5 := hb6.grown hgr5 hb6.size (fun p hp => (hm4.out.lt p hp).1)
            have hm5 : Hid (w5.ownsRow w3.heap.size 3 1 v2 (q + 1) ((o.take q ++ [(q : Int)]).map (Value.int .i64))) := by show World.ownsRow _ _ _ _ _ _ _; simpa using hown7
            have hsrc : RowI w5 (some ⟨g, 0, none⟩) (0) ([]) := RowI.nil _ _
            have hsz5 := hb7.size
            clear hm4 hb6 hri hown7 hgr5 hsz4
            go_wp2_with (at_builtin; refine app_ints _ rfl (.tmp 44) (.tmp 47) rfl w3.heap.size v2 (q + 1) (o.take q ++ [(q : Int)]) rfl hm5.out (some ⟨g, 0, none⟩) (0) (0) ([]) rfl hsrc (by omega) hsz5 ?_)
            intro v3 w6 hown8 hgr6
            have hb8 : Below w3.heap.size w3 w6 := hb7.grown hgr6 hsz5 (fun p hp => (hm5.out.lt p hp).1)
            have hfo : Hid (InsK w l (q + 1) v3 w6) := by
              have hown9 : w6.ownsRow w3.heap.size 3 1 v3 (q + 1 + (0)) (((o.take q ++ [(q : Int)]) ++ []).map (Value.int .i64)) := by simpa using hown8
              have e1 : q + 1 + (0) = q + 1 := by omega
              rw [e1] at hown9
              obtain ⟨g9, cap9, ev, hc9⟩ := own_form hown9 (by omega)
              refine ⟨g9, cap9, o.take q ++ (q : Int) :: o.drop q, ev, hc9, HN.out.1, HN.out.2, ?_, hbw3.trans (hb8.mono hsz)⟩
              have e2 : o.take q ++ (q : Int) :: o.drop q = (o.take q ++ [(q : Int)]) ++ [] := by rw [List.drop_of_length_le (by rw [HOL.out]; exact Nat.le_refl _)]; simp
              rw [e2]
              exact World.ownsRow.mono hown9 hsz
            clear hown8 hgr6 hb8 hb7 hm5 hsrc hown3 hbw3
            go_wp2_with fail
            go_roundw
            case rel => exact ⟨q + 1, by omega, by go_num, hfo⟩
            case measure => simp [intOf]; omega
          · skip
            have hown3 := own_later hown hb4
            have hbw3 := hb.trans (hb4.mono hb.size)
            have hsz := hbw3.size
            have hg3 : g < w3.heap.size := (hown3.lt g rfl).2
            have hm3 : (w3.alloc (.cells #[] 3)).ownsRow w3.heap.size 3 1 (.slice (some ⟨w3.heap.size, 0, none⟩) 0 0) 0 (([] : List Int).map (Value.int .i64)) := World.ownsRow_made (base := w3.heap.size) (e := 3) (size := 1) w3 #[] 0 (Nat.le_refl _) (by unfold maxLen; omega) (by simp)
            have hba := (Below.refl w3.heap.size w3).alloc (Nat.le_refl _) (.cells #[] 3)
            have hsrc := (own_rowI (own_later hown3 hba)).take (m := q) (by omega)
            have hqci : (q : Int) ≤ (cap : Int) := by omega
            have hqn : cap ≠ q := by omega
            clear hown hb hb4
            go_wp2_with (at_builtin; refine app_ints _ rfl (.tmp 35) (.tmp 38) rfl w3.heap.size _ 0 [] rfl hm3 (some ⟨g, 0, none⟩) q cap (o.take q) rfl hsrc (by omega) (by simp) ?_)
            intro v1 w4 hown4 hgr4
            have hb5 : Below w3.heap.size w3 w4 := hba.grown hgr4 (by simp) (fun p hp => by simp [Value.ownBlock] at hp; omega)
            clear hm3 hba hsrc hgr4
            have hsz4 := hb5.size
            have hm4 : Hid ((w4.alloc (.cells #[.int .i64 (q : Int)] 3)).ownsRow w3.heap.size 3 1 v1 q ((o.take q).map (Value.int .i64))) := by
              show World.ownsRow _ _ _ _ _ _ _
              refine own_later ?_ ((Below.refl w4.heap.size w4).alloc (Nat.le_refl _) (.cells #[.int .i64 (q : Int)] 3))
              simpa using hown4
            have hb6 := hb5.alloc hsz4 (.cells #[.int .i64 (q : Int)] 3)
            have hri : RowI (w4.alloc (.cells #[.int .i64 (q : Int)] 3)) (some ⟨w4.heap.size, 0, none⟩) 1 [(q : Int)] := (row_lit w4 [(q : Int)] 1 rfl).rowI
            clear hown4 hb5
            go_wp2_with (at_builtin; refine app_ints _ rfl (.tmp 40) (.tmp 42) rfl w3.heap.size v1 q (o.take q) rfl hm4.out (some ⟨w4.heap.size, 0, none⟩) 1 1 [(q : Int)] rfl hri (by omega) (by simp; omega) ?_)
            intro v2 w5 hown7 hgr5
            have hb7 : Below w3.heap.size w3 w5 := hb6.grown hgr5 hb6.size (fun p hp => (hm4.out.lt p hp).1)
            have hm5 : Hid (w5.ownsRow w3.heap.size 3 1 v2 (q + 1) ((o.take q ++ [(q : Int)]).map (Value.int .i64))) := by show World.ownsRow _ _ _ _ _ _ _; simpa using hown7
            have hsrc : RowI w5 (some ⟨g, q, none⟩) (0) ([]) := RowI.nil _ _
            have hsz5 := hb7.size
            clear hm4 hb6 hri hown7 hgr5 hsz4
            go_wp2_with (at_builtin; refine app_ints _ rfl (.tmp 44) (.tmp 47) rfl w3.heap.size v2 (q + 1) (o.take q ++ [(q : Int)]) rfl hm5.out (some ⟨g, q, none⟩) (0) (cap - q) ([]) rfl hsrc (by omega) hsz5 ?_)
            intro v3 w6 hown8 hgr6
            have hb8 : Below w3.heap.size w3 w6 := hb7.grown hgr6 hsz5 (fun p hp => (hm5.out.lt p hp).1)
            have hfo : Hid (InsK w l (q + 1) v3 w6) := by
              have hown9 : w6.ownsRow w3.heap.size 3 1 v3 (q + 1 + (0)) (((o.take q ++ [(q : Int)]) ++ []).map (Value.int .i64)) := by simpa using hown8
              have e1 : q + 1 + (0) = q + 1 := by omega
              rw [e1] at hown9
              obtain ⟨g9, cap9, ev, hc9⟩ := own_form hown9 (by omega)
              refine ⟨g9, cap9, o.take q ++ (q : Int) :: o.drop q, ev, hc9, HN.out.1, HN.out.2, ?_, hbw3.trans (hb8.mono hsz)⟩
              have e2 : o.take q ++ (q : Int) :: o.drop q = (o.take q ++ [(q : Int)]) ++ [] := by rw [List.drop_of_length_le (by rw [HOL.out]; exact Nat.le_refl _)]; simp
              rw [e2]
              exact World.ownsRow.mono hown9 hsz
            clear hown8 hgr6 hb8 hb7 hm5 hsrc hown3 hbw3
            go_wp2_with fail
            go_roundw
            case rel => exact ⟨q + 1, by omega, by go_num, hfo⟩
            case measure => simp [intOf]; omega
    · obtain rfl : k = n := by omega
      have hbt : decide ((k : Int) < (k : Int)) = false := by simp
      have hfo : Hid (InsK w l k (.slice (some ⟨g, 0, none⟩) k cap) W1) := ⟨g, cap, o, rfl, hkc, HP.out, HS.out, hown, hb⟩
      clear hown hb
      go_wp2_with fail
      go_ret
      exact ⟨_, rfl, hfo.out⟩
end Go.Proofs.Ytnfcigbiebbjdaa
namespace Go.Proofs.Ytnfcigbiebbjdaa
open Go.RowKit

theorem rest_next (k : Nat) (R : List Int) : rest (k + 1) R = if (k : Int) ∈ R then rest k R else rest k R ++ [(k : Int)] := by
  unfold rest
  rw [nums_succ, List.filter_append]
  by_cases h : (k : Int) ∈ R <;> simp [h]
theorem rest_len (k : Nat) (R : List Int) : (rest k R).length ≤ k := by
  unfold rest
  have := List.length_filter_le (fun i => decide (i ∉ R)) (nums k)
  rwa [nums_length] at this
theorem own_lit (w : World) {base : Nat} (b : Int) (hb : base ≤ w.heap.size) : (w.alloc (.cells #[.int .i64 b] 3)).ownsRow base 3 1 (.slice (some ⟨w.heap.size, 0, none⟩) 1 1) 1 (([b] : List Int).map (Value.int .i64)) :=
  ⟨by simp, .inr ⟨w.heap.size, 1, #[.int .i64 b], rfl, hb, heap_alloc_new w _, Nat.le_refl _, by unfold maxLen; omega, rfl, rfl⟩⟩
/-- The places given away so far. -/
def InsL (base : Nat) (v : Value) (R : List Int) (wr : World) : Prop :=
  ∃ (g cap : Nat), v = .slice (some ⟨g, 0, none⟩) R.length cap ∧ wr.ownsRow base 3 1 v R.length (R.map (Value.int .i64))
theorem InsL.later {base : Nat} {v : Value} {R : List Int} {w w' : World} (h : InsL base v R w) (hb : Below w.heap.size w w') : InsL base v R w' := by
  obtain ⟨g, cap, e, h1⟩ := h
  exact ⟨g, cap, e, own_later h1 hb⟩
theorem InsL.far {base : Nat} {v : Value} {R : List Int} {w : World} (h : InsL base v R w) {P n : Nat} {f : Int → Bool} (hP : RowBo w P n f) {p : Addr} (hp : p.block = P) (u : Value) : InsL base v R (w.setCell p u) := by
  obtain ⟨g, cap, e, h1⟩ := h
  refine ⟨g, cap, e, ?_⟩
  have hne : g ≠ P := by
    rintro rfl
    rcases h1.2 with ⟨h2, _⟩ | ⟨g', cap', cur, h2, _, h3, _⟩
    · rw [e] at h2; cases h2
    · rw [e] at h2
      injection h2 with e1 e2 e3
      cases e1
      unfold RowBo Blk at hP
      rw [hP] at h3
      injection h3 with h3
      injection h3 with _ ht
      exact absurd ht (by decide)
  refine h1.kept (only_setCell (World.grownBy.refl w (some P)) (.inl hp) u) (.inr ?_)
  subst e
  simpa [Value.ownBlock] using fun h => hne h
def lenV : Value → Nat
  | .slice _ n _ => n
  | _ => 0
/-- The document's Lawler gives the one order. -/
def RLawR (w : World) (l : List Jb) (n : Nat) (e : Ending) (w' : World) : Prop :=
  ∃ (v : Value) (o : List Int), e = .returned v ∧ GoodL l n o ∧ o.length = n ∧ InsL w.heap.size v o w' ∧ Below w.heap.size w w'

set_option maxRecDepth 100000 in
set_option maxHeartbeats 8000000 in
theorem rLawler_yes (A : Option Addr) (n c : Nat) (l : List Jb) (w : World) (rA : JobsH w A n l) (hv : validB l = true) : Calls Try.prog 29 #[.slice A n c] w (RLawR w l n) := by
  have hn : n ≤ 64 := by
    have h := hv
    unfold validB at h
    simp only [Bool.and_eq_true, decide_eq_true_eq] at h
    rw [← rA.1]; exact h.1
  have HC : Hid (∀ (k : Nat) (x : Jb), l[k]? = some x → Calm x) := fun k x h => validB_calm hv h
  have HV := Lib.hid hv
  have hmb := make_bools n (by omega)
  clear hv
  have hb0 : Below w.heap.size w (w.alloc (.cells #[] 3)) := (Below.refl _ _).alloc (Nat.le_refl _) _
  have hb1 : Below w.heap.size w ((w.alloc (.cells #[] 3)).alloc (.cells (boolz n) 4)) := hb0.alloc hb0.size _
  have hmade : (w.alloc (.cells #[] 3)).ownsRow w.heap.size 3 1 (.slice (some ⟨w.heap.size, 0, none⟩) 0 0) 0 (([] : List Int).map (Value.int .i64)) := World.ownsRow_made (base := w.heap.size) (e := 3) (size := 1) w #[] 0 (by simp) (by unfold maxLen; omega) (by simp)
  have hP0 := RowBo.new (w.alloc (.cells #[] 3)) n
  have hst : InsL w.heap.size (.slice (some ⟨w.heap.size, 0, none⟩) 0 0) [] ((w.alloc (.cells #[] 3)).alloc (.cells (boolz n) 4)) := ⟨_, _, rfl, own_later hmade ((Below.refl _ _).alloc (Nat.le_refl _) _)⟩
  rw [World.size_alloc] at hP0
  obtain ⟨P, hPe⟩ : ∃ P, P = w.heap.size + 1 := ⟨_, rfl⟩
  rw [← hPe] at hP0
  have HPe := Lib.hid hPe
  have HSt := Lib.hid hst
  have HP0 : Hid (RowBo ((w.alloc (.cells #[] 3)).alloc (.cells (boolz n) 4)) P n (fun _ => false)) := hP0
  have HB1 := Lib.hid hb1
  have hPw : w.heap.size ≤ P := by omega
  clear hb0 hb1 hmade hst hP0 hPe
  go_enter Try.func29, Try.ntmps29
  go_wp2_with fail
  rw [← HPe.out]
  go_loopw [3] (fun v wr => ∃ R : List Int, R.length ≤ n ∧ GoodL l n R ∧ InsL w.heap.size v R wr ∧ RowBo wr P n (fun z => decide (z ∈ R)) ∧ Below w.heap.size w wr) (fun v _ => n - lenV v)
  case atStart => exact ⟨[], by simp, .nil, HSt.out, HP0.out.congr (fun z _ _ => by simp), HB1.out⟩
  case round =>
    clear HSt HP0 HB1
    obtain ⟨R, hR, hG, ⟨G, cap, rfl, hown⟩, hP, hb⟩ := hrel
    obtain ⟨W1, hW1⟩ : ∃ W1, W1 = wr := ⟨_, rfl⟩
    subst hW1
    have HG := Lib.hid hG
    have hsb := upTo_bound HV.out hG hn
    obtain ⟨s, hs⟩ : ∃ s, s = upTo l n R := ⟨_, rfl⟩
    rw [← hs] at hsb
    have HS := Lib.hid hs
    obtain ⟨s0, s1⟩ := hsb
    clear hs
    by_cases hr : R.length < n
    · have hbt : decide ((R.length : Int) < (n : Int)) = true := by simp; omega
      have hbt2 : (R.length : Int) < (n : Int) := by omega
      obtain ⟨M, hM⟩ : ∃ M, M = W1.heap.size := ⟨_, rfl⟩
      have hMw : w.heap.size ≤ M := by rw [hM]; exact hb.size
      have hx1 := (Below.refl W1.heap.size W1).alloc (Nat.le_refl _) (.cells (boolz n) 4)
      have hM0 := RowBo.new W1 n
      rw [← hM] at hM0
      have hM1 : Hid (RowBo (W1.alloc (.cells (boolz n) 4)) M n (fun z => decide (0 < named l (rest 0 R) z))) := hM0.congr fun z _ _ => by simp [rest, nums, named]
      have HMe := Lib.hid hM
      have HR := Lib.hid hr
      clear hM hM0 hr hR
      go_wp2_with fail
      rw [← HMe.out]
      go_loopw [5, 7] (fun t i wi => ∃ (k : Nat) (u : Int), k ≤ n ∧ i = .int .i64 k ∧ t = .int .i64 u ∧ Hid (u = works l (rest k R)) ∧ 0 ≤ u ∧ u ≤ 10000 * k ∧ RowBo wi M n (fun z => decide (0 < named l (rest k R) z)) ∧ Below W1.heap.size W1 wi) (fun _ i _ => n - (intOf i).toNat)
      case atStart => exact ⟨0, 0, Nat.zero_le _, rfl, rfl, by show _ = _; simp [rest, nums, works], Int.le_refl _, by omega, hM1.out, hx1⟩
      case round =>
        clear hM1 hx1
        obtain ⟨k, u, hk, rfl, rfl, hu, u0, u1, hMr, hb2⟩ := hrel
        have hbw := hb.trans (hb2.mono hb.size)
        by_cases hkn : k < n
        · have ubt : decide ((k : Int) < (n : Int)) = true := by simp; omega
          have ubt2 : (k : Int) < (n : Int) := by omega
          have hP2 := hP.later hb2
          have cP := hP2.at_ hkn
          have HRn := Lib.hid (rest_next k R)
          by_cases hin : (k : Int) ∈ R
          · rw [decide_eq_true hin] at cP
            have HRn2 : Hid (rest (k + 1) R = rest k R) := by show _ = _; rw [HRn.out, if_pos hin]
            clear HRn hP2 hin
            go_wp2_with fail
            go_roundw
            case rel => exact ⟨k + 1, u, by omega, by go_num, rfl, by show _ = _; rw [HRn2.out]; exact hu.out, by omega, by omega, by rw [HRn2.out]; exact hMr, hb2⟩
            case measure => simp [intOf]; omega
          · rw [decide_eq_false hin] at cP
            have HRn2 : Hid (rest (k + 1) R = rest k R ++ [(k : Int)]) := by show _ = _; rw [HRn.out, if_neg hin]
            clear HRn hP2 hin
            obtain ⟨g, B, m, cB, e1, hg, hj, c0, c1, c2, c3, c4, hrow⟩ := rA.both hbw hkn
            subst e1
            have HRow := Lib.hid hrow
            have hmj : (jat l k).after.length = m := hrow.1
            have hq := HC.out k _ hj
            obtain ⟨p0, p1, _⟩ := hq
            have HWk : Hid (works l (rest (k + 1) R) = works l (rest k R) + (jat l k).work) := by
              show _ = _
              rw [HRn2.out, works_append]; simp [works]
            have HNk : Hid (∀ a, named l (rest (k + 1) R) a = named l (rest k R) a + (jat l k).after.count a) := fun a => by
              rw [HRn2.out, named_append]; simp [named]
            have hup := validB_up HV.out (k : Int)
            have HU := Lib.hid hup
            have hlen := validB_len HV.out (k : Int)
            have hm64 : m ≤ 64 := by omega
            clear hj hup hrow HRn2 hlen
            generalize jat l k = j at *
            have hM2 := hMr.congr (g := fun z => decide (0 < named l (rest k R) z + (j.after.take 0).count z)) (fun z _ _ => by rw [decide_eq_decide, List.take_zero, List.count_nil, Nat.add_zero])
            have C4 : Hid (∀ w' : World, Below W1.heap.size W1 w' → w'.cell? ⟨g, k * 5 + 4, none⟩ = some (.slice B m cB)) := by
              have hg1 : g < W1.heap.size := by
                obtain ⟨g', _, e', hg', _⟩ := (rA.later hb).at_ hkn
                cases e'; exact hg'
              intro w' hb'
              have := (hb2.cell (p := ⟨g, k * 5 + 4, none⟩) hg1).symm.trans c4
              exact (hb'.cell (p := ⟨g, k * 5 + 4, none⟩) hg1).trans this
            have Hg : Hid (g < W1.heap.size) := by
              obtain ⟨g', _, e', hg', _⟩ := (rA.later hb).at_ hkn
              cases e'; exact hg'
            clear hMr
            go_wp2_with fail
            clear c0 c1 c2 c3 c4
            go_loopw [8] (fun i wi => ∃ q : Nat, q ≤ m ∧ i = .int .i64 q ∧ RowBo wi M n (fun z => decide (0 < named l (rest k R) z + (j.after.take q).count z)) ∧ Below W1.heap.size W1 wi) (fun i _ => m - (intOf i).toNat)
            case atStart => exact ⟨0, Nat.zero_le _, rfl, hM2, hb2⟩
            case round =>
              clear hM2 hb2 hbw cP hg
              obtain ⟨q, hq, rfl, hMr, hb2⟩ := hrel
              have c4 := C4.out _ hb2
              have hbw := hb.trans (hb2.mono hb.size)
              have hg : g < wr.heap.size := Nat.lt_of_lt_of_le Hg.out hb2.size
              by_cases hqm : q < m
              · have vbt : decide ((q : Int) < (m : Int)) = true := by simp; omega
                have vbt2 : (q : Int) < (m : Int) := by omega
                obtain ⟨g2, e1, hg2, hc⟩ := (HRow.out.later hbw).at_ hqm
                cases e1
                have hxq : j.after[q]? = some (j.after.getD q 0) := getD_get (by rw [hmj]; exact hqm)
                have hx := HU.out _ (List.mem_of_getElem? hxq)
                have hct := Lib.hid (fun a => count_take (a := a) hxq)
                clear hxq
                generalize j.after.getD q 0 = x at *
                obtain ⟨x0, x1⟩ := hx
                obtain ⟨i, rfl⟩ := Int.eq_ofNat_of_zero_le x0
                have hi : i < n := by omega
                have hin : (i : Int) < (n : Int) := by omega
                have cM := hMr.at_ hi
                have fM := hMr.frozen i
                have lM := hMr.lt
                have hset := (hMr.set_ i true).congr (g := fun z => decide (0 < named l (rest k R) z + (j.after.take (q + 1)).count z)) (fun z _ _ => by
                  rw [hct.out z]
                  by_cases e : z = (i : Int)
                  · subst e; simp; omega
                  · simp [e])
                have HSet := Lib.hid hset
                have hbs := Lib.hid (hb2.setCell (p := ⟨M, i, none⟩) (show W1.heap.size ≤ M by rw [HMe.out]; exact Nat.le_refl _) (.bool true))
                clear hset hMr hb2 hbw hct x0 x1
                generalize decide (0 < named l (rest k R) (i : Int) + (j.after.take q).count (i : Int)) = v1 at *
                go_wp2_with fail
                go_roundw
                case rel => exact ⟨q + 1, by omega, by go_num, HSet.out, hbs.out⟩
                case measure => simp [intOf]; omega
              · obtain rfl : q = m := by omega
                have vbt : decide ((q : Int) < (q : Int)) = false := by simp
                have hM3 := hMr.congr (g := fun z => decide (0 < named l (rest (k + 1) R) z)) (fun z _ _ => by
                  rw [HNk.out z, List.take_of_length_le (by omega)])
                go_wp2_with fail
                go_roundw
                case rel => exact ⟨k + 1, u + j.work, by omega, by go_num, rfl, by show _ = _; rw [HWk.out, hu.out], by omega, by omega, hM3, hb2⟩
                case measure => simp [intOf]; omega
        · obtain rfl : k = n := by omega
          have ubt : decide ((k : Int) < (k : Int)) = false := by simp
          have hus : u = s := by rw [hu.out, HS.out, works_rest l (HG.out.sub l)]
          have us : u ≤ 640000 := by omega
          have HSu : Hid (u = upTo l k R) := hus.trans HS.out
          have HFr : Hid (∀ z : Int, 0 ≤ z → z < k → (Free l k R z ↔ z ∉ R ∧ decide (0 < named l (rest k R) z) = false)) := fun z z0 z1 => by
            rw [named_free l (HG.out.sub l) z z0 z1, named_rest l (HG.out.sub l)]
            simp
          clear hu u1 hus HS s0 s1
          have hP2 := hP.later hb2
          have hown2 := own_later hown hb2
          have HPp := Lib.hid hP2
          have HOw := Lib.hid hown2
          have HMr := Lib.hid hMr
          have HBw := Lib.hid hbw
          clear hP2 hown2 hMr hP hown hb2 hbw hb
          obtain ⟨W2, hW2⟩ : ∃ W2, W2 = wr := ⟨_, rfl⟩
          subst hW2
          go_wp2_with fail
          go_loopw [9, 10, 11] (fun b e i wi => ∃ (q : Nat) (b0 e0 : Int), q ≤ k ∧ i = .int .i64 q ∧ b = .int .i64 b0 ∧ e = .int .i64 e0 ∧ Scan (Free l k R) (fun z => fineJ (jat l z) u) q b0 ∧ Hid (b0 < 0 ∨ e0 = fineJ (jat l b0) u) ∧ Below W2.heap.size W2 wi) (fun _ _ i _ => k - (intOf i).toNat)
          case atStart => exact ⟨0, -1, 0, Nat.zero_le _, rfl, rfl, rfl, Scan.zero _ _, .inl (by omega), Below.refl _ _⟩
          case round =>
            obtain ⟨q, b0, e0, hq, rfl, rfl, rfl, hsc, he0, hb2⟩ := hrel
            have hbw := HBw.out.trans (hb2.mono HBw.out.size)
            by_cases hqk : q < k
            · have vbt : decide ((q : Int) < (k : Int)) = true := by simp; omega
              have vbt2 : (q : Int) < (k : Int) := by omega
              obtain ⟨g, B, m, cB, e1, hg, hj, c0, c1, c2, c3, c4, _⟩ := rA.both hbw hqk
              subst e1
              have hcalm := HC.out q _ hj
              have hfb := fine_bound hcalm us
              have HF : Hid (fineJ (jat l q) u = (jat l q).wt * max 0 (u - (jat l q).due)) := rfl
              have hfr := Lib.hid (HFr.out (q : Int) (by omega) (by omega))
              have hxl := later_cell (w := wr)
              obtain ⟨_, _, d0, d1, w0, w1⟩ := hcalm
              have HSc := Lib.hid hsc
              obtain ⟨f, hf⟩ : ∃ f, f = fineJ (jat l q) u := ⟨_, rfl⟩
              have HFq := Lib.hid hf
              rw [← hf] at hfb HF
              clear hf hsc hj
              generalize (jat l q).due = d at *
              generalize (jat l q).wt = x at *
              generalize (jat l q).work = y1 at *
              generalize (jat l q).rel = y2 at *
              have hmx : (if d < u then u - d else 0) = max 0 (u - d) := by split <;> omega
              have b1 : 0 ≤ x * max 0 (u - d) := by have := HF.out; omega
              have b2 : x * max 0 (u - d) ≤ 640000000 := by have := HF.out; omega
              have b3 : max 0 (u - d) ≤ 640000 := by omega
              have b4 : 0 ≤ max 0 (u - d) := by omega
              generalize max 0 (u - d) = mm at *
              have hw1 : IntKind.i64.wrap (u - d) = u - d := by rw [IntKind.wrap_i64]; omega
              have hw2 : IntKind.i64.wrap (x * mm) = x * mm := by rw [IntKind.wrap_i64]; omega
              go_wp2_with fail
              refine wp_region_later (by kernel_rfl) (by kernel_rfl) ?_
              repeat (go_big_quiet_step (fail))
              refine wpQuiet_nil ?_
              rintro w3 ⟨⟨_, hb3⟩, rfl⟩
              have hb4 := hb2.trans (hb3.mono hb2.size)
              have cP := (HPp.out.later hb4).at_ hqk
              have cM := (HMr.out.later hb4).at_ hqk
              have lP := (HPp.out.later hb4).lt
              have lM := (HMr.out.later hb4).lt
              clear hxl hb2 hb3 c0 c1 c2 c3 c4 hbw hg
              by_cases hin : (q : Int) ∈ R
              · rw [decide_eq_true hin] at cP
                have HN : Hid (Scan (Free l k R) (fun z => fineJ (jat l z) u) (q + 1) b0) := HSc.out.skip (fun h => (hfr.out.1 h).1 hin)
                clear hfr HSc hin
                go_wp2_with fail
                go_roundw
                case rel => exact ⟨q + 1, b0, e0, by omega, by go_num, rfl, rfl, HN.out, he0, hb4⟩
                case measure => simp [intOf]; omega
              · rw [decide_eq_false hin] at cP
                cases hnm : decide (0 < named l (rest k R) (q : Int)) with
                | true =>
                  rw [hnm] at cM
                  have HN : Hid (Scan (Free l k R) (fun z => fineJ (jat l z) u) (q + 1) b0) := HSc.out.skip (fun h => by have := (hfr.out.1 h).2; rw [hnm] at this; cases this)
                  clear hfr HSc hin hnm
                  go_wp2_with fail
                  go_roundw
                  case rel => exact ⟨q + 1, b0, e0, by omega, by go_num, rfl, rfl, HN.out, he0, hb4⟩
                  case measure => simp [intOf]; omega
                | false =>
                  rw [hnm] at cM
                  have HFe : Hid (Free l k R (q : Int)) := hfr.out.2 ⟨hin, hnm⟩
                  clear hfr hin hnm
                  have HFx : Hid (x * mm = fineJ (jat l q) u) := HF.out.symm.trans HFq.out
                  by_cases h0 : b0 < 0
                  · have u1 : decide (b0 < 0) = true := by simpa using h0
                    have HN : Hid (Scan (Free l k R) (fun z => fineJ (jat l z) u) (q + 1) (q : Int)) := HSc.out.take HFe.out (.inl h0)
                    clear HSc he0
                    go_wp2_with fail
                    go_roundw
                    case rel => exact ⟨q + 1, (q : Int), x * mm, by omega, by go_num, rfl, rfl, HN.out, .inr HFx.out, hb4⟩
                    case measure => simp [intOf]; omega
                  · have u1 : decide (b0 < 0) = false := by simpa using h0
                    have HE : Hid (e0 = fineJ (jat l b0) u) := he0.out.resolve_left h0
                    by_cases hle : x * mm ≤ e0
                    · have u2 : decide (x * mm ≤ e0) = true := by simpa using hle
                      have HN : Hid (Scan (Free l k R) (fun z => fineJ (jat l z) u) (q + 1) (q : Int)) := HSc.out.take HFe.out (.inr (by rw [← HE.out, ← HFx.out]; exact hle))
                      clear HSc he0
                      go_wp2_with fail
                      go_roundw
                      case rel => exact ⟨q + 1, (q : Int), x * mm, by omega, by go_num, rfl, rfl, HN.out, .inr HFx.out, hb4⟩
                      case measure => simp [intOf]; omega
                    · have u2 : decide (x * mm ≤ e0) = false := by simpa using hle
                      have u3 : e0 < x * mm := by omega
                      have HN : Hid (Scan (Free l k R) (fun z => fineJ (jat l z) u) (q + 1) b0) := HSc.out.keep (by omega) (by rw [← HE.out, ← HFx.out]; exact hle)
                      clear HSc he0 hle
                      go_wp2_with fail
                      go_roundw
                      case rel => exact ⟨q + 1, b0, e0, by omega, by go_num, rfl, rfl, HN.out, .inr HE.out, hb4⟩
                      case measure => simp [intOf]; omega
            · obtain rfl : q = k := by omega
              have vbt : decide ((q : Int) < (q : Int)) = false := by simp
              have hpick : Pick l q R b0 := by
                refine Scan.pick l ?_ (fun i a ha => (validB_up HV.out i a ha).2) HR.out
                rw [← HSu.out]
                exact hsc
              have HPk := Lib.hid hpick
              obtain ⟨b, rfl⟩ := Int.eq_ofNat_of_zero_le hpick.1.1
              have hbk : b < q := by have := hpick.1.2.1; omega
              have hbki : (b : Int) < (q : Int) := by omega
              clear hsc hpick he0
              have P3 := HPp.out.later hb2
              have lP := P3.lt
              have fP := P3.frozen b
              have cP := P3.at_ hbk
              have P4 := (P3.set_ b true).congr (g := fun z => decide (z ∈ (b : Int) :: R)) (fun z _ _ => by by_cases ez : z = (b : Int) <;> simp [ez])
              have I3 : InsL w.heap.size (.slice (some ⟨G, 0, none⟩) R.length cap) R wr := ⟨G, cap, rfl, own_later HOw.out hb2⟩
              have I4 := I3.far P3 (p := ⟨P, b, none⟩) rfl (.bool true)
              have B4 := hbw.setCell (p := ⟨P, b, none⟩) hPw (.bool true)
              have hall : Hid (InsL w.heap.size (.slice (some ⟨G, 0, none⟩) R.length cap) R (wr.setCell ⟨P, b, none⟩ (.bool true)) ∧ RowBo (wr.setCell ⟨P, b, none⟩ (.bool true)) P q (fun z => decide (z ∈ (b : Int) :: R)) ∧ Below w.heap.size w (wr.setCell ⟨P, b, none⟩ (.bool true))) := ⟨I4, P4, B4⟩
              clear P3 P4 I3 I4 B4 hb2 hbw
              go_upto_region 23 with (fail)
              revert hall
              generalize wr.setCell ⟨P, b, none⟩ (.bool true) = w4
              intro hall
              clear cP fP lP
              obtain ⟨⟨G2, cap2, e1, hown4⟩, P4, B4⟩ := hall
              cases e1
              have hb5 := (Below.refl w4.heap.size w4).alloc (Nat.le_refl _) (.cells #[.int .i64 (b : Int)] 3)
              have hlit := own_lit w4 (base := w4.heap.size) (b : Int) (Nat.le_refl _)
              have hsrc : RowI (w4.alloc (.cells #[.int .i64 (b : Int)] 3)) (some ⟨G, 0, none⟩) R.length R := own_rowI (own_later hown4 hb5)
              clear hown4
              go_wp2_with (at_builtin; refine app_ints _ rfl (.tmp 109) (.tmp 110) rfl w4.heap.size _ 1 [(b : Int)] rfl hlit (some ⟨G, 0, none⟩) R.length cap R rfl hsrc (by have := HR.out; omega) (by simp) ?_)
              intro v5 w5 hown5 hgr5
              have hb6 : Below w4.heap.size w4 w5 := hb5.grown hgr5 (by simp) (fun p hp => by simp [Value.ownBlock] at hp; omega)
              clear hb5 hlit hsrc hgr5
              have hsz := B4.size
              have hfin : Hid (InsL w.heap.size v5 ((b : Int) :: R) w5) := by
                have e1 : 1 + R.length = ((b : Int) :: R).length := by simp; omega
                rw [e1] at hown5
                obtain ⟨g9, cap9, ev, _⟩ := own_form hown5 (by simp)
                exact ⟨g9, cap9, ev, World.ownsRow.mono hown5 hsz⟩
              have hlv : Hid (lenV v5 = R.length + 1) := by
                obtain ⟨g9, cap9, ev, _⟩ := hfin.out
                show _ = _
                rw [ev]; rfl
              have P6 := P4.later hb6
              have B6 := B4.trans (hb6.mono hsz)
              clear hown5 hb6 P4 B4
              go_wp2_with fail
              go_roundw
              case rel => exact ⟨(b : Int) :: R, by have := HR.out; simp; omega, .cons HG.out HPk.out, hfin.out, P6, B6⟩
              case measure => rw [hlv.out]; have := HR.out; simp [lenV]; omega
    · have hbt : decide ((R.length : Int) < (n : Int)) = false := by simp; omega
      have hRn : R.length = n := by omega
      have hfo : Hid (InsL w.heap.size (.slice (some ⟨G, 0, none⟩) R.length cap) R W1) := ⟨G, cap, rfl, hown⟩
      have HRn := Lib.hid hRn
      clear hown hP hRn
      go_wp2_with fail
      go_ret
      exact ⟨_, R, rfl, HG.out, HRn.out, hfo.out, hb⟩
end Go.Proofs.Ytnfcigbiebbjdaa
