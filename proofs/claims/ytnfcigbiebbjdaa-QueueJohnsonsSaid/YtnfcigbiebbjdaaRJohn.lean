/-
  Johnson's order as the document makes it: the walk.
  Conditions: the times are valid; the slices start at the heads of blocks.
-/
import Derived.Test.YtnfcigbiebbjdaaJohns
namespace Go.Proofs.Ytnfcigbiebbjdaa
open Go.RowKit

/-- The early ones, then the others, as far as k. -/
def JSt (f s : List Int) (k : Nat) (F B : List Int) : Prop :=
  (F ++ B).Perm (nums k) ∧ (F ++ B).Pairwise (leOf (johnC f s)) ∧ (∀ z ∈ F, iat f z < iat s z) ∧ (∀ z ∈ B, ¬ iat f z < iat s z)
theorem JSt.zero (f s : List Int) : JSt f s 0 [] [] := ⟨by simp [nums], List.Pairwise.nil, by simp, by simp⟩
/-- The first q of the early ones are not behind k. -/
def PasF (f : List Int) (k : Nat) (F : List Int) (q : Nat) : Prop := ∀ z ∈ F.take q, iat f z ≤ iat f k
def PasB (s : List Int) (k : Nat) (B : List Int) (q : Nat) : Prop := ∀ z ∈ B.take q, iat s k ≤ iat s z
theorem PasF.next {f : List Int} {k : Nat} {F : List Int} {q : Nat} {x : Int} (h : PasF f k F q) (hx : F[q]? = some x) (hle : iat f x ≤ iat f k) : PasF f k F (q + 1) := fun z hz => by
  rw [List.take_add_one, hx] at hz
  rcases List.mem_append.1 hz with hz | hz
  · exact h z hz
  · obtain rfl : z = x := by simpa using hz
    exact hle
theorem PasB.next {s : List Int} {k : Nat} {B : List Int} {q : Nat} {x : Int} (h : PasB s k B q) (hx : B[q]? = some x) (hle : iat s k ≤ iat s x) : PasB s k B (q + 1) := fun z hz => by
  rw [List.take_add_one, hx] at hz
  rcases List.mem_append.1 hz with hz | hz
  · exact h z hz
  · obtain rfl : z = x := by simpa using hz
    exact hle
theorem JSt.early {f s : List Int} {k : Nat} {F B : List Int} (h : JSt f s k F B) (hk : iat f k < iat s k) {q : Nat} (hq : q ≤ F.length) (hp : PasF f k F q) (hn : ∀ z, F[q]? = some z → iat f k < iat f z) :
    JSt f s (k + 1) (F.take q ++ (k : Int) :: F.drop q) B := by
  obtain ⟨h1, h2, h3, h4⟩ := h
  have e1 : (F ++ B).take q = F.take q := List.take_append_of_le_length hq
  have e2 : (F ++ B).drop q = F.drop q ++ B := List.drop_append_of_le_length hq
  have hi := ins_next (john_swo f s) (q := q) h1 h2 (fun z hz => by
    rw [e1] at hz
    have a := hp z hz
    have b := h3 z (List.mem_of_mem_take hz)
    rw [johnC_neg]
    omega) (fun z hz => by
    rw [johnC_neg]
    rcases Nat.lt_or_ge q F.length with hl | hl
    · rw [List.getElem?_append_left hl] at hz
      have a := hn z hz
      have b := h3 z (List.mem_of_getElem? hz)
      omega
    · rw [List.getElem?_append_right hl] at hz
      have b := h4 z (List.mem_of_getElem? hz)
      omega)
  rw [e1, e2] at hi
  refine ⟨by simpa using hi.1, by simpa using hi.2, fun z hz => ?_, h4⟩
  rcases List.mem_append.1 hz with hz | hz
  · exact h3 z (List.mem_of_mem_take hz)
  · rcases List.mem_cons.1 hz with rfl | hz
    · exact hk
    · exact h3 z (List.mem_of_mem_drop hz)
theorem JSt.other {f s : List Int} {k : Nat} {F B : List Int} (h : JSt f s k F B) (hk : iat s k ≤ iat f k) {q : Nat} (hp : PasB s k B q) (hn : ∀ z, B[q]? = some z → iat s z < iat s k) :
    JSt f s (k + 1) F (B.take q ++ (k : Int) :: B.drop q) := by
  obtain ⟨h1, h2, h3, h4⟩ := h
  have e1 : (F ++ B).take (F.length + q) = F ++ B.take q := by rw [List.take_append, List.take_of_length_le (by omega)]; congr 2; omega
  have e2 : (F ++ B).drop (F.length + q) = B.drop q := by rw [List.drop_append, List.drop_of_length_le (by omega), List.nil_append]; congr 1; omega
  have hi := ins_next (john_swo f s) (q := F.length + q) h1 h2 (fun z hz => by
    rw [e1] at hz
    rw [johnC_neg]
    rcases List.mem_append.1 hz with hz | hz
    · have b := h3 z hz
      omega
    · have a := hp z hz
      have b := h4 z (List.mem_of_mem_take hz)
      omega) (fun z hz => by
    rw [johnC_neg]
    rw [List.getElem?_append_right (by omega), show F.length + q - F.length = q by omega] at hz
    have a := hn z hz
    have b := h4 z (List.mem_of_getElem? hz)
    omega)
  rw [e1, e2] at hi
  refine ⟨by simpa using hi.1, by simpa using hi.2, h3, fun z hz => ?_⟩
  rcases List.mem_append.1 hz with hz | hz
  · exact h4 z (List.mem_of_mem_take hz)
  · rcases List.mem_cons.1 hz with rfl | hz
    · omega
    · exact h4 z (List.mem_of_mem_drop hz)
theorem JSt.len {f s : List Int} {k : Nat} {F B : List Int} (h : JSt f s k F B) : F.length + B.length = k := by
  have := h.1.length_eq
  rwa [List.length_append, nums_length] at this
theorem JSt.memF {f s : List Int} {k : Nat} {F B : List Int} (h : JSt f s k F B) : ∀ z ∈ F, 0 ≤ z ∧ z < (k : Int) := fun _ hz => mem_nums.1 (h.1.mem_iff.1 (List.mem_append.2 (.inl hz)))
theorem JSt.memB {f s : List Int} {k : Nat} {F B : List Int} (h : JSt f s k F B) : ∀ z ∈ B, 0 ≤ z ∧ z < (k : Int) := fun _ hz => mem_nums.1 (h.1.mem_iff.1 (List.mem_append.2 (.inr hz)))
/-- The document's Johnson gives the sorted order. -/
def RJohnR (w : World) (f s : List Int) (n : Nat) (e : Ending) (w' : World) : Prop :=
  ∃ (v : Value) (o : List Int), e = .returned v ∧ o.Perm (nums n) ∧ o.Pairwise (leOf (johnC f s)) ∧ w'.ownsRow w.heap.size 3 1 v n (o.map (Value.int .i64)) ∧ Below w.heap.size w w'

set_option maxRecDepth 100000 in
set_option maxHeartbeats 8000000 in
theorem rJohnson_yes (A D : Option Addr) (n c d : Nat) (f s : List Int) (w : World) (rA : RowH w A n f) (rD : RowH w D n s) (hn : n ≤ 64) :
    Calls Try.prog 43 #[.slice A n c, .slice D n d] w (RJohnR w f s n) := by
  have hb0 : Below w.heap.size w (w.alloc (.cells #[] 3)) := (Below.refl _ _).alloc (Nat.le_refl _) _
  have hb1 : Below w.heap.size w ((w.alloc (.cells #[] 3)).alloc (.cells #[] 3)) := hb0.alloc hb0.size _
  have hm0 : (w.alloc (.cells #[] 3)).ownsRow w.heap.size 3 1 (.slice (some ⟨w.heap.size, 0, none⟩) 0 0) 0 (([] : List Int).map (Value.int .i64)) := World.ownsRow_made (base := w.heap.size) (e := 3) (size := 1) w #[] 0 (by simp) (by unfold maxLen; omega) (by simp)
  have hm1 : ((w.alloc (.cells #[] 3)).alloc (.cells #[] 3)).ownsRow w.heap.size 3 1 (.slice (some ⟨w.heap.size + 1, 0, none⟩) 0 0) 0 (([] : List Int).map (Value.int .i64)) := by
    have h := World.ownsRow_made (base := w.heap.size) (e := 3) (size := 1) (w.alloc (.cells #[] 3)) #[] 0 (by simp) (by unfold maxLen; omega) (by simp)
    rwa [World.size_alloc] at h
  have hF0 : Hid (InsL w.heap.size (.slice (some ⟨w.heap.size, 0, none⟩) 0 0) [] ((w.alloc (.cells #[] 3)).alloc (.cells #[] 3))) := ⟨_, _, rfl, own_later hm0 ((Below.refl _ _).alloc (Nat.le_refl _) _)⟩
  have hB0 : Hid (InsL w.heap.size (.slice (some ⟨w.heap.size + 1, 0, none⟩) 0 0) [] ((w.alloc (.cells #[] 3)).alloc (.cells #[] 3))) := ⟨_, _, rfl, hm1⟩
  have hw0 := Lib.hid hb1
  have hJ0 := Lib.hid (JSt.zero f s)
  have HLA := Lib.hid rA.1
  have HLD := Lib.hid rD.1
  clear hb0 hb1 hm0 hm1
  go_enter Try.func43, Try.ntmps43
  go_wp2_with fail
  go_loopw [5, 6, 7] (fun v u i wr => ∃ (k : Nat) (F B : List Int), k ≤ n ∧ i = .int .i64 k ∧ JSt f s k F B ∧ InsL w.heap.size v F wr ∧ InsL w.heap.size u B wr ∧ Below w.heap.size w wr) (fun _ _ i _ => n - (intOf i).toNat)
  case atStart => exact ⟨0, [], [], Nat.zero_le _, rfl, hJ0.out, hF0.out, hB0.out, hw0.out⟩
  case round =>
    clear hF0 hB0 hw0 hJ0
    obtain ⟨k, F, B, hk, rfl, hJ, ⟨gF, cF, rfl, hoF⟩, ⟨gB, cB, rfl, hoB⟩, hb⟩ := hrel
    obtain ⟨W1, hW1⟩ : ∃ W1, W1 = wr := ⟨_, rfl⟩
    subst hW1
    have HJ := Lib.hid hJ
    have hFl := hJ.len
    obtain ⟨nF, hnF⟩ : ∃ nF, nF = F.length := ⟨_, rfl⟩
    obtain ⟨nB, hnB⟩ : ∃ nB, nB = B.length := ⟨_, rfl⟩
    rw [← hnF] at hoF hFl ⊢
    rw [← hnB] at hoB hFl ⊢
    have HNF := Lib.hid hnF
    have HNB := Lib.hid hnB
    have hcF : nF ≤ cF := by
      rcases hoF.2 with ⟨h2, _⟩ | ⟨g', cap', cur, h2, _, _, h4, _⟩
      · cases h2
      · injection h2 with e1 e2 e3; omega
    have hcB : nB ≤ cB := by
      rcases hoB.2 with ⟨h2, _⟩ | ⟨g', cap', cur, h2, _, _, h4, _⟩
      · cases h2
      · injection h2 with e1 e2 e3; omega
    have HOF := Lib.hid hoF
    have HOB := Lib.hid hoB
    have HB := Lib.hid hb
    clear hJ hnF hnB hoF hoB
    by_cases hlt : k < n
    · have hbt : decide ((k : Int) < (n : Int)) = true := by simp; omega
      have hbt2 : (k : Int) < (n : Int) := by omega
      obtain ⟨gA, e1, hgA, ca⟩ := (rA.later hb).at_ hlt
      subst e1
      obtain ⟨gD, e1, hgD, cd⟩ := (rD.later hb).at_ hlt
      subst e1
      have HFk : Hid (iat f k = f.getD k 0) := iat_nat f k
      have HSk : Hid (iat s k = s.getD k 0) := iat_nat s k
      generalize f.getD k 0 = fk at *
      generalize s.getD k 0 = sk at *
      have hxl := later_cell (w := W1)
      by_cases he : fk < sk
      · have d0 : decide (fk < sk) = true := by simpa using he
        have HE : Hid (iat f k < iat s k) := by show _ < _; rw [HFk.out, HSk.out]; exact he
        go_wp2_with fail
        refine wp_region_later (by kernel_rfl) (by kernel_rfl) ?_
        repeat (go_big_quiet_step (fail))
        refine wpQuiet_nil ?_
        rintro w2 ⟨⟨_, hb2⟩, rfl⟩
        clear hxl ca cd hgA hgD he
        have HP0 : Hid (PasF f k F 0) := fun z hz => by simp at hz
        go_wp2_with fail
        go_loopw [8] (fun i wi => ∃ q : Nat, q ≤ nF ∧ i = .int .i64 q ∧ PasF f k F q ∧ Below W1.heap.size W1 wi) (fun i _ => nF - (intOf i).toNat)
        case atStart => exact ⟨0, Nat.zero_le _, rfl, HP0.out, hb2⟩
        case round =>
          clear HP0 hb2
          obtain ⟨q, hq, rfl, hpas, hb2⟩ := hrel
          have hbw := HB.out.trans (hb2.mono HB.out.size)
          have hown2 := own_later HOF.out hb2
          by_cases hqk : q < nF
          · have ubt : decide ((q : Int) < (nF : Int)) = true := by simp; omega
            have ubt2 : (q : Int) < (nF : Int) := by omega
            obtain ⟨g0, cap0, e1, _, hg2⟩ := hown2.form (by omega)
            cases e1
            have hqo : F[q]? = some (F.getD q 0) := getD_get (by rw [← HNF.out]; exact hqk)
            have hc := hown2.cellAt q (by omega)
            rw [List.getElem?_map, hqo] at hc
            have hx := HJ.out.memF _ (List.mem_of_getElem? hqo)
            have HQ := Lib.hid hqo
            clear hqo
            generalize F.getD q 0 = x at *
            obtain ⟨x0, x1⟩ := hx
            obtain ⟨i, rfl⟩ := Int.eq_ofNat_of_zero_le x0
            have hik : i < n := by omega
            have hiki : (i : Int) < (n : Int) := by omega
            have hc2 : wr.cell? ⟨gF, q, none⟩ = some (.int .i64 i) := hc
            obtain ⟨ga, e1, hga, ci⟩ := (rA.later hbw).at_ hik
            cases e1
            obtain ⟨ga', e1, _, ck⟩ := (rA.later hbw).at_ hlt
            cases e1
            rw [← iat_nat f k, HFk.out] at ck
            have HI : Hid (iat f i = f.getD i 0) := iat_nat f i
            generalize f.getD i 0 = y at *
            have hxl := later_cell (w := wr)
            clear hc x0 x1 hown2
            by_cases hle : y ≤ fk
            · have d1 : decide (y ≤ fk) = true := by simpa using hle
              have HN : Hid (PasF f k F (q + 1)) := hpas.next HQ.out (by rw [HI.out, HFk.out]; exact hle)
              clear hpas HQ HI
              go_wp2_with fail
              refine wp_region_later (by kernel_rfl) (by kernel_rfl) ?_
              repeat (go_big_quiet_step (fail))
              refine wpQuiet_nil ?_
              rintro w3 ⟨⟨_, hb3⟩, rfl⟩
              have hb4 := hb2.trans (hb3.mono hb2.size)
              clear hxl hb2 hbw hb3 ci ck hc2
              go_wp2_with fail
              go_roundw
              case rel => exact ⟨q + 1, by omega, by go_num, HN.out, hb4⟩
              case measure => simp [intOf]; omega
            · have d1 : decide (y ≤ fk) = false := by simp; omega
              have HN : Hid (JSt f s (k + 1) (F.take q ++ (k : Int) :: F.drop q) B) := HJ.out.early HE.out (by rw [← HNF.out]; exact hq) hpas (fun z hz => by
                rw [HQ.out] at hz
                injection hz with hz
                subst hz
                rw [HI.out, HFk.out]
                omega)
              clear hpas HQ HI hle
              go_wp2_with fail
              refine wp_region_later (by kernel_rfl) (by kernel_rfl) ?_
              repeat (go_big_quiet_step (fail))
              refine wpQuiet_nil ?_
              rintro w3 ⟨⟨_, hb3⟩, rfl⟩
              have hb4 := hb2.trans (hb3.mono hb2.size)
              clear hxl hb2 hbw hb3 ci ck hc2
              have hqc : q ≤ cF := by omega
              have hqci : (q : Int) ≤ (cF : Int) := by omega
              have hown3 := own_later HOF.out hb4
              have hoth3 := own_later HOB.out hb4
              have hbw3 := HB.out.trans (hb4.mono HB.out.size)
              have hsz := hbw3.size
              have hg3 : gF < w3.heap.size := (hown3.lt gF rfl).2
              have hm3 : (w3.alloc (.cells #[] 3)).ownsRow w3.heap.size 3 1 (.slice (some ⟨w3.heap.size, 0, none⟩) 0 0) 0 (([] : List Int).map (Value.int .i64)) := World.ownsRow_made (base := w3.heap.size) (e := 3) (size := 1) w3 #[] 0 (Nat.le_refl _) (by unfold maxLen; omega) (by simp)
              have hba := (Below.refl w3.heap.size w3).alloc (Nat.le_refl _) (.cells #[] 3)
              have hsrc := (own_rowI (own_later hown3 hba)).take (m := q) (by omega)
              have HO3 := Lib.hid hown3
              have HOth := Lib.hid hoth3
              clear hb4 hown3 hoth3
              go_wp2_with (at_builtin; refine app_ints _ rfl (.tmp 49) (.tmp 52) rfl w3.heap.size _ 0 [] rfl hm3 (some ⟨gF, 0, none⟩) q cF (F.take q) rfl hsrc (by omega) (by simp) ?_)
              intro v1 w4 hown4 hgr4
              have hb5 : Below w3.heap.size w3 w4 := hba.grown hgr4 (by simp) (fun p hp => by simp [Value.ownBlock] at hp; omega)
              clear hm3 hba hsrc hgr4
              have hsz4 := hb5.size
              have hm4 : Hid ((w4.alloc (.cells #[.int .i64 (k : Int)] 3)).ownsRow w3.heap.size 3 1 v1 q ((F.take q).map (Value.int .i64))) := by
                show World.ownsRow _ _ _ _ _ _ _
                refine own_later ?_ ((Below.refl w4.heap.size w4).alloc (Nat.le_refl _) (.cells #[.int .i64 (k : Int)] 3))
                simpa using hown4
              have hb6 := hb5.alloc hsz4 (.cells #[.int .i64 (k : Int)] 3)
              have hri : RowI (w4.alloc (.cells #[.int .i64 (k : Int)] 3)) (some ⟨w4.heap.size, 0, none⟩) 1 [(k : Int)] := (row_lit w4 [(k : Int)] 1 rfl).rowI
              clear hown4 hb5
              go_wp2_with (at_builtin; refine app_ints _ rfl (.tmp 54) (.tmp 56) rfl w3.heap.size v1 q (F.take q) rfl hm4.out (some ⟨w4.heap.size, 0, none⟩) 1 1 [(k : Int)] rfl hri (by omega) (by simp; omega) ?_)
              intro v2 w5 hown7 hgr5
              have hb7 : Below w3.heap.size w3 w5 := hb6.grown hgr5 hb6.size (fun p hp => (hm4.out.lt p hp).1)
              have hm5 : Hid (w5.ownsRow w3.heap.size 3 1 v2 (q + 1) ((F.take q ++ [(k : Int)]).map (Value.int .i64))) := by show World.ownsRow _ _ _ _ _ _ _; simpa using hown7
              have hown3 := HO3.out
              have hsrc : RowI w5 (some ⟨gF, q, none⟩) (nF - q) (F.drop q) := by have h := RowI.drop (own_rowI (own_later hown3 hb7)) (m := q) (by omega); rwa [Addr.add_lit, Nat.zero_add] at h
              have hsz5 := hb7.size
              clear hm4 hb6 hri hown7 hgr5 hsz4 hown3
              go_wp2_with (at_builtin; refine app_ints _ rfl (.tmp 58) (.tmp 61) rfl w3.heap.size v2 (q + 1) (F.take q ++ [(k : Int)]) rfl hm5.out (some ⟨gF, q, none⟩) (nF - q) (cF - q) (F.drop q) rfl hsrc (by omega) hsz5 ?_)
              intro v3 w6 hown8 hgr6
              have hb8 : Below w3.heap.size w3 w6 := hb7.grown hgr6 hsz5 (fun p hp => (hm5.out.lt p hp).1)
              have hfo : Hid (InsL w.heap.size v3 (F.take q ++ (k : Int) :: F.drop q) w6) := by
                have e2 : (F.take q ++ (k : Int) :: F.drop q) = (F.take q ++ [(k : Int)]) ++ (F.drop q) := by simp
                have e1 : q + 1 + (nF - q) = (F.take q ++ (k : Int) :: F.drop q).length := by
                  rw [e2]; simp only [List.length_append, List.length_take, List.length_singleton, List.length_drop, ← HNF.out]; omega
                have hown9 : w6.ownsRow w3.heap.size 3 1 v3 (F.take q ++ (k : Int) :: F.drop q).length ((F.take q ++ (k : Int) :: F.drop q).map (Value.int .i64)) := by
                  rw [← e1, e2]; simpa using hown8
                obtain ⟨g9, cap9, ev, hc9⟩ := own_form hown9 (by rw [← e1]; omega)
                exact ⟨g9, cap9, ev, World.ownsRow.mono hown9 hsz⟩
              have hfp : Hid (InsL w.heap.size (.slice (some ⟨gB, 0, none⟩) nB cB) B w6) := ⟨_, _, by rw [← HNB.out], by rw [← HNB.out]; exact own_later HOth.out hb8⟩
              have hb9 := hbw3.trans (hb8.mono hsz)
              clear hown8 hgr6 hb8 hb7 hm5 hsrc hbw3 HO3 HOth
              go_wp2_with fail
              go_roundw
              case rel => exact ⟨k + 1, (F.take q ++ (k : Int) :: F.drop q), B, by omega, by go_num, HN.out, hfo.out, hfp.out, hb9⟩
              case measure => simp [intOf]; omega
          · obtain rfl : q = nF := by omega
            have ubt : decide ((q : Int) < (q : Int)) = false := by simp
            have HN : Hid (JSt f s (k + 1) (F.take q ++ (k : Int) :: F.drop q) B) := HJ.out.early HE.out (by rw [← HNF.out]; exact hq) hpas (fun z hz => by
              rw [List.getElem?_eq_none (by rw [← HNF.out]; exact Nat.le_refl _)] at hz; cases hz)
            have hxl := later_cell (w := wr)
            go_wp2_with fail
            refine wp_region_later (by kernel_rfl) (by kernel_rfl) ?_
            repeat (go_big_quiet_step (fail))
            refine wpQuiet_nil ?_
            rintro w3 ⟨⟨_, hb3⟩, rfl⟩
            have hb4 := hb2.trans (hb3.mono hb2.size)
            clear hxl hb2 hbw hb3 hown2 hpas
            by_cases hcq : q = cF
            · subst hcq
              have hown3 := own_later HOF.out hb4
              have hoth3 := own_later HOB.out hb4
              have hbw3 := HB.out.trans (hb4.mono HB.out.size)
              have hsz := hbw3.size
              have hg3 : gF < w3.heap.size := (hown3.lt gF rfl).2
              have hm3 : (w3.alloc (.cells #[] 3)).ownsRow w3.heap.size 3 1 (.slice (some ⟨w3.heap.size, 0, none⟩) 0 0) 0 (([] : List Int).map (Value.int .i64)) := World.ownsRow_made (base := w3.heap.size) (e := 3) (size := 1) w3 #[] 0 (Nat.le_refl _) (by unfold maxLen; omega) (by simp)
              have hba := (Below.refl w3.heap.size w3).alloc (Nat.le_refl _) (.cells #[] 3)
              have hsrc := (own_rowI (own_later hown3 hba)).take (m := q) (by omega)
              have HO3 := Lib.hid hown3
              have HOth := Lib.hid hoth3
              clear hb4 hown3 hoth3
              go_wp2_with (at_builtin; refine app_ints _ rfl (.tmp 49) (.tmp 52) rfl w3.heap.size _ 0 [] rfl hm3 (some ⟨gF, 0, none⟩) q q (F.take q) rfl hsrc (by omega) (by simp) ?_)
              intro v1 w4 hown4 hgr4
              have hb5 : Below w3.heap.size w3 w4 := hba.grown hgr4 (by simp) (fun p hp => by simp [Value.ownBlock] at hp; omega)
              clear hm3 hba hsrc hgr4
              have hsz4 := hb5.size
              have hm4 : Hid ((w4.alloc (.cells #[.int .i64 (k : Int)] 3)).ownsRow w3.heap.size 3 1 v1 q ((F.take q).map (Value.int .i64))) := by
                show World.ownsRow _ _ _ _ _ _ _
                refine own_later ?_ ((Below.refl w4.heap.size w4).alloc (Nat.le_refl _) (.cells #[.int .i64 (k : Int)] 3))
                simpa using hown4
              have hb6 := hb5.alloc hsz4 (.cells #[.int .i64 (k : Int)] 3)
              have hri : RowI (w4.alloc (.cells #[.int .i64 (k : Int)] 3)) (some ⟨w4.heap.size, 0, none⟩) 1 [(k : Int)] := (row_lit w4 [(k : Int)] 1 rfl).rowI
              clear hown4 hb5
              go_wp2_with (at_builtin; refine app_ints _ rfl (.tmp 54) (.tmp 56) rfl w3.heap.size v1 q (F.take q) rfl hm4.out (some ⟨w4.heap.size, 0, none⟩) 1 1 [(k : Int)] rfl hri (by omega) (by simp; omega) ?_)
              intro v2 w5 hown7 hgr5
              have hb7 : Below w3.heap.size w3 w5 := hb6.grown hgr5 hb6.size (fun p hp => (hm4.out.lt p hp).1)
              have hm5 : Hid (w5.ownsRow w3.heap.size 3 1 v2 (q + 1) ((F.take q ++ [(k : Int)]).map (Value.int .i64))) := by show World.ownsRow _ _ _ _ _ _ _; simpa using hown7
              have hown3 := HO3.out
              have hsrc : RowI w5 (some ⟨gF, 0, none⟩) 0 [] := RowI.nil _ _
              have hsz5 := hb7.size
              clear hm4 hb6 hri hown7 hgr5 hsz4 hown3
              go_wp2_with (at_builtin; refine app_ints _ rfl (.tmp 58) (.tmp 61) rfl w3.heap.size v2 (q + 1) (F.take q ++ [(k : Int)]) rfl hm5.out (some ⟨gF, 0, none⟩) 0 0 [] rfl hsrc (by omega) hsz5 ?_)
              intro v3 w6 hown8 hgr6
              have hb8 : Below w3.heap.size w3 w6 := hb7.grown hgr6 hsz5 (fun p hp => (hm5.out.lt p hp).1)
              have hfo : Hid (InsL w.heap.size v3 (F.take q ++ (k : Int) :: F.drop q) w6) := by
                have e2 : (F.take q ++ (k : Int) :: F.drop q) = (F.take q ++ [(k : Int)]) ++ [] := by rw [List.drop_of_length_le (by rw [← HNF.out]; exact Nat.le_refl _)]; simp
                have e1 : q + 1 + 0 = (F.take q ++ (k : Int) :: F.drop q).length := by
                  rw [e2]; simp only [List.length_append, List.length_take, List.length_singleton, List.length_nil, ← HNF.out]; omega
                have hown9 : w6.ownsRow w3.heap.size 3 1 v3 (F.take q ++ (k : Int) :: F.drop q).length ((F.take q ++ (k : Int) :: F.drop q).map (Value.int .i64)) := by
                  rw [← e1, e2]; simpa using hown8
                obtain ⟨g9, cap9, ev, hc9⟩ := own_form hown9 (by rw [← e1]; omega)
                exact ⟨g9, cap9, ev, World.ownsRow.mono hown9 hsz⟩
              have hfp : Hid (InsL w.heap.size (.slice (some ⟨gB, 0, none⟩) nB cB) B w6) := ⟨_, _, by rw [← HNB.out], by rw [← HNB.out]; exact own_later HOth.out hb8⟩
              have hb9 := hbw3.trans (hb8.mono hsz)
              clear hown8 hgr6 hb8 hb7 hm5 hsrc hbw3 HO3 HOth
              go_wp2_with fail
              go_roundw
              case rel => exact ⟨k + 1, (F.take q ++ (k : Int) :: F.drop q), B, by omega, by go_num, HN.out, hfo.out, hfp.out, hb9⟩
              case measure => simp [intOf]; omega
            · have hqci : (q : Int) ≤ (cF : Int) := by omega
              have hqn : cF ≠ q := by omega
              have hown3 := own_later HOF.out hb4
              have hoth3 := own_later HOB.out hb4
              have hbw3 := HB.out.trans (hb4.mono HB.out.size)
              have hsz := hbw3.size
              have hg3 : gF < w3.heap.size := (hown3.lt gF rfl).2
              have hm3 : (w3.alloc (.cells #[] 3)).ownsRow w3.heap.size 3 1 (.slice (some ⟨w3.heap.size, 0, none⟩) 0 0) 0 (([] : List Int).map (Value.int .i64)) := World.ownsRow_made (base := w3.heap.size) (e := 3) (size := 1) w3 #[] 0 (Nat.le_refl _) (by unfold maxLen; omega) (by simp)
              have hba := (Below.refl w3.heap.size w3).alloc (Nat.le_refl _) (.cells #[] 3)
              have hsrc := (own_rowI (own_later hown3 hba)).take (m := q) (by omega)
              have HO3 := Lib.hid hown3
              have HOth := Lib.hid hoth3
              clear hb4 hown3 hoth3
              go_wp2_with (at_builtin; refine app_ints _ rfl (.tmp 49) (.tmp 52) rfl w3.heap.size _ 0 [] rfl hm3 (some ⟨gF, 0, none⟩) q cF (F.take q) rfl hsrc (by omega) (by simp) ?_)
              intro v1 w4 hown4 hgr4
              have hb5 : Below w3.heap.size w3 w4 := hba.grown hgr4 (by simp) (fun p hp => by simp [Value.ownBlock] at hp; omega)
              clear hm3 hba hsrc hgr4
              have hsz4 := hb5.size
              have hm4 : Hid ((w4.alloc (.cells #[.int .i64 (k : Int)] 3)).ownsRow w3.heap.size 3 1 v1 q ((F.take q).map (Value.int .i64))) := by
                show World.ownsRow _ _ _ _ _ _ _
                refine own_later ?_ ((Below.refl w4.heap.size w4).alloc (Nat.le_refl _) (.cells #[.int .i64 (k : Int)] 3))
                simpa using hown4
              have hb6 := hb5.alloc hsz4 (.cells #[.int .i64 (k : Int)] 3)
              have hri : RowI (w4.alloc (.cells #[.int .i64 (k : Int)] 3)) (some ⟨w4.heap.size, 0, none⟩) 1 [(k : Int)] := (row_lit w4 [(k : Int)] 1 rfl).rowI
              clear hown4 hb5
              go_wp2_with (at_builtin; refine app_ints _ rfl (.tmp 54) (.tmp 56) rfl w3.heap.size v1 q (F.take q) rfl hm4.out (some ⟨w4.heap.size, 0, none⟩) 1 1 [(k : Int)] rfl hri (by omega) (by simp; omega) ?_)
              intro v2 w5 hown7 hgr5
              have hb7 : Below w3.heap.size w3 w5 := hb6.grown hgr5 hb6.size (fun p hp => (hm4.out.lt p hp).1)
              have hm5 : Hid (w5.ownsRow w3.heap.size 3 1 v2 (q + 1) ((F.take q ++ [(k : Int)]).map (Value.int .i64))) := by show World.ownsRow _ _ _ _ _ _ _; simpa using hown7
              have hown3 := HO3.out
              have hsrc : RowI w5 (some ⟨gF, q, none⟩) 0 [] := RowI.nil _ _
              have hsz5 := hb7.size
              clear hm4 hb6 hri hown7 hgr5 hsz4 hown3
              go_wp2_with (at_builtin; refine app_ints _ rfl (.tmp 58) (.tmp 61) rfl w3.heap.size v2 (q + 1) (F.take q ++ [(k : Int)]) rfl hm5.out (some ⟨gF, q, none⟩) 0 (cF - q) [] rfl hsrc (by omega) hsz5 ?_)
              intro v3 w6 hown8 hgr6
              have hb8 : Below w3.heap.size w3 w6 := hb7.grown hgr6 hsz5 (fun p hp => (hm5.out.lt p hp).1)
              have hfo : Hid (InsL w.heap.size v3 (F.take q ++ (k : Int) :: F.drop q) w6) := by
                have e2 : (F.take q ++ (k : Int) :: F.drop q) = (F.take q ++ [(k : Int)]) ++ [] := by rw [List.drop_of_length_le (by rw [← HNF.out]; exact Nat.le_refl _)]; simp
                have e1 : q + 1 + 0 = (F.take q ++ (k : Int) :: F.drop q).length := by
                  rw [e2]; simp only [List.length_append, List.length_take, List.length_singleton, List.length_nil, ← HNF.out]; omega
                have hown9 : w6.ownsRow w3.heap.size 3 1 v3 (F.take q ++ (k : Int) :: F.drop q).length ((F.take q ++ (k : Int) :: F.drop q).map (Value.int .i64)) := by
                  rw [← e1, e2]; simpa using hown8
                obtain ⟨g9, cap9, ev, hc9⟩ := own_form hown9 (by rw [← e1]; omega)
                exact ⟨g9, cap9, ev, World.ownsRow.mono hown9 hsz⟩
              have hfp : Hid (InsL w.heap.size (.slice (some ⟨gB, 0, none⟩) nB cB) B w6) := ⟨_, _, by rw [← HNB.out], by rw [← HNB.out]; exact own_later HOth.out hb8⟩
              have hb9 := hbw3.trans (hb8.mono hsz)
              clear hown8 hgr6 hb8 hb7 hm5 hsrc hbw3 HO3 HOth
              go_wp2_with fail
              go_roundw
              case rel => exact ⟨k + 1, (F.take q ++ (k : Int) :: F.drop q), B, by omega, by go_num, HN.out, hfo.out, hfp.out, hb9⟩
              case measure => simp [intOf]; omega
      · have d0 : decide (fk < sk) = false := by simpa using he
        have HE : Hid (iat s k ≤ iat f k) := by show _ ≤ _; rw [HFk.out, HSk.out]; omega
        go_wp2_with fail
        refine wp_region_later (by kernel_rfl) (by kernel_rfl) ?_
        repeat (go_big_quiet_step (fail))
        refine wpQuiet_nil ?_
        rintro w2 ⟨⟨_, hb2⟩, rfl⟩
        clear hxl ca cd hgA hgD he
        have HP0 : Hid (PasB s k B 0) := fun z hz => by simp at hz
        go_wp2_with fail
        go_loopw [10] (fun i wi => ∃ q : Nat, q ≤ nB ∧ i = .int .i64 q ∧ PasB s k B q ∧ Below W1.heap.size W1 wi) (fun i _ => nB - (intOf i).toNat)
        case atStart => exact ⟨0, Nat.zero_le _, rfl, HP0.out, hb2⟩
        case round =>
          clear HP0 hb2
          obtain ⟨q, hq, rfl, hpas, hb2⟩ := hrel
          have hbw := HB.out.trans (hb2.mono HB.out.size)
          have hown2 := own_later HOB.out hb2
          by_cases hqk : q < nB
          · have ubt : decide ((q : Int) < (nB : Int)) = true := by simp; omega
            have ubt2 : (q : Int) < (nB : Int) := by omega
            obtain ⟨g0, cap0, e1, _, hg2⟩ := hown2.form (by omega)
            cases e1
            have hqo : B[q]? = some (B.getD q 0) := getD_get (by rw [← HNB.out]; exact hqk)
            have hc := hown2.cellAt q (by omega)
            rw [List.getElem?_map, hqo] at hc
            have hx := HJ.out.memB _ (List.mem_of_getElem? hqo)
            have HQ := Lib.hid hqo
            clear hqo
            generalize B.getD q 0 = x at *
            obtain ⟨x0, x1⟩ := hx
            obtain ⟨i, rfl⟩ := Int.eq_ofNat_of_zero_le x0
            have hik : i < n := by omega
            have hiki : (i : Int) < (n : Int) := by omega
            have hc2 : wr.cell? ⟨gB, q, none⟩ = some (.int .i64 i) := hc
            obtain ⟨ga, e1, hga, ci⟩ := (rD.later hbw).at_ hik
            cases e1
            obtain ⟨ga', e1, _, ck⟩ := (rD.later hbw).at_ hlt
            cases e1
            rw [← iat_nat s k, HSk.out] at ck
            have HI : Hid (iat s i = s.getD i 0) := iat_nat s i
            generalize s.getD i 0 = y at *
            have hxl := later_cell (w := wr)
            clear hc x0 x1 hown2
            by_cases hle : sk ≤ y
            · have d1 : decide (y ≥ sk) = true := by simpa using hle
              have HN : Hid (PasB s k B (q + 1)) := hpas.next HQ.out (by rw [HI.out, HSk.out]; exact hle)
              clear hpas HQ HI
              go_wp2_with fail
              refine wp_region_later (by kernel_rfl) (by kernel_rfl) ?_
              repeat (go_big_quiet_step (fail))
              refine wpQuiet_nil ?_
              rintro w3 ⟨⟨_, hb3⟩, rfl⟩
              have hb4 := hb2.trans (hb3.mono hb2.size)
              clear hxl hb2 hbw hb3 ci ck hc2
              go_wp2_with fail
              go_roundw
              case rel => exact ⟨q + 1, by omega, by go_num, HN.out, hb4⟩
              case measure => simp [intOf]; omega
            · have d1 : decide (y ≥ sk) = false := by simp; omega
              have HN : Hid (JSt f s (k + 1) F (B.take q ++ (k : Int) :: B.drop q)) := HJ.out.other HE.out hpas (fun z hz => by
                rw [HQ.out] at hz
                injection hz with hz
                subst hz
                rw [HI.out, HSk.out]
                omega)
              clear hpas HQ HI hle
              go_wp2_with fail
              refine wp_region_later (by kernel_rfl) (by kernel_rfl) ?_
              repeat (go_big_quiet_step (fail))
              refine wpQuiet_nil ?_
              rintro w3 ⟨⟨_, hb3⟩, rfl⟩
              have hb4 := hb2.trans (hb3.mono hb2.size)
              clear hxl hb2 hbw hb3 ci ck hc2
              have hqc : q ≤ cB := by omega
              have hqci : (q : Int) ≤ (cB : Int) := by omega
              have hown3 := own_later HOB.out hb4
              have hoth3 := own_later HOF.out hb4
              have hbw3 := HB.out.trans (hb4.mono HB.out.size)
              have hsz := hbw3.size
              have hg3 : gB < w3.heap.size := (hown3.lt gB rfl).2
              have hm3 : (w3.alloc (.cells #[] 3)).ownsRow w3.heap.size 3 1 (.slice (some ⟨w3.heap.size, 0, none⟩) 0 0) 0 (([] : List Int).map (Value.int .i64)) := World.ownsRow_made (base := w3.heap.size) (e := 3) (size := 1) w3 #[] 0 (Nat.le_refl _) (by unfold maxLen; omega) (by simp)
              have hba := (Below.refl w3.heap.size w3).alloc (Nat.le_refl _) (.cells #[] 3)
              have hsrc := (own_rowI (own_later hown3 hba)).take (m := q) (by omega)
              have HO3 := Lib.hid hown3
              have HOth := Lib.hid hoth3
              clear hb4 hown3 hoth3
              go_wp2_with (at_builtin; refine app_ints _ rfl (.tmp 83) (.tmp 86) rfl w3.heap.size _ 0 [] rfl hm3 (some ⟨gB, 0, none⟩) q cB (B.take q) rfl hsrc (by omega) (by simp) ?_)
              intro v1 w4 hown4 hgr4
              have hb5 : Below w3.heap.size w3 w4 := hba.grown hgr4 (by simp) (fun p hp => by simp [Value.ownBlock] at hp; omega)
              clear hm3 hba hsrc hgr4
              have hsz4 := hb5.size
              have hm4 : Hid ((w4.alloc (.cells #[.int .i64 (k : Int)] 3)).ownsRow w3.heap.size 3 1 v1 q ((B.take q).map (Value.int .i64))) := by
                show World.ownsRow _ _ _ _ _ _ _
                refine own_later ?_ ((Below.refl w4.heap.size w4).alloc (Nat.le_refl _) (.cells #[.int .i64 (k : Int)] 3))
                simpa using hown4
              have hb6 := hb5.alloc hsz4 (.cells #[.int .i64 (k : Int)] 3)
              have hri : RowI (w4.alloc (.cells #[.int .i64 (k : Int)] 3)) (some ⟨w4.heap.size, 0, none⟩) 1 [(k : Int)] := (row_lit w4 [(k : Int)] 1 rfl).rowI
              clear hown4 hb5
              go_wp2_with (at_builtin; refine app_ints _ rfl (.tmp 88) (.tmp 90) rfl w3.heap.size v1 q (B.take q) rfl hm4.out (some ⟨w4.heap.size, 0, none⟩) 1 1 [(k : Int)] rfl hri (by omega) (by simp; omega) ?_)
              intro v2 w5 hown7 hgr5
              have hb7 : Below w3.heap.size w3 w5 := hb6.grown hgr5 hb6.size (fun p hp => (hm4.out.lt p hp).1)
              have hm5 : Hid (w5.ownsRow w3.heap.size 3 1 v2 (q + 1) ((B.take q ++ [(k : Int)]).map (Value.int .i64))) := by show World.ownsRow _ _ _ _ _ _ _; simpa using hown7
              have hown3 := HO3.out
              have hsrc : RowI w5 (some ⟨gB, q, none⟩) (nB - q) (B.drop q) := by have h := RowI.drop (own_rowI (own_later hown3 hb7)) (m := q) (by omega); rwa [Addr.add_lit, Nat.zero_add] at h
              have hsz5 := hb7.size
              clear hm4 hb6 hri hown7 hgr5 hsz4 hown3
              go_wp2_with (at_builtin; refine app_ints _ rfl (.tmp 92) (.tmp 95) rfl w3.heap.size v2 (q + 1) (B.take q ++ [(k : Int)]) rfl hm5.out (some ⟨gB, q, none⟩) (nB - q) (cB - q) (B.drop q) rfl hsrc (by omega) hsz5 ?_)
              intro v3 w6 hown8 hgr6
              have hb8 : Below w3.heap.size w3 w6 := hb7.grown hgr6 hsz5 (fun p hp => (hm5.out.lt p hp).1)
              have hfo : Hid (InsL w.heap.size v3 (B.take q ++ (k : Int) :: B.drop q) w6) := by
                have e2 : (B.take q ++ (k : Int) :: B.drop q) = (B.take q ++ [(k : Int)]) ++ (B.drop q) := by simp
                have e1 : q + 1 + (nB - q) = (B.take q ++ (k : Int) :: B.drop q).length := by
                  rw [e2]; simp only [List.length_append, List.length_take, List.length_singleton, List.length_drop, ← HNB.out]; omega
                have hown9 : w6.ownsRow w3.heap.size 3 1 v3 (B.take q ++ (k : Int) :: B.drop q).length ((B.take q ++ (k : Int) :: B.drop q).map (Value.int .i64)) := by
                  rw [← e1, e2]; simpa using hown8
                obtain ⟨g9, cap9, ev, hc9⟩ := own_form hown9 (by rw [← e1]; omega)
                exact ⟨g9, cap9, ev, World.ownsRow.mono hown9 hsz⟩
              have hfp : Hid (InsL w.heap.size (.slice (some ⟨gF, 0, none⟩) nF cF) F w6) := ⟨_, _, by rw [← HNF.out], by rw [← HNF.out]; exact own_later HOth.out hb8⟩
              have hb9 := hbw3.trans (hb8.mono hsz)
              clear hown8 hgr6 hb8 hb7 hm5 hsrc hbw3 HO3 HOth
              go_wp2_with fail
              go_roundw
              case rel => exact ⟨k + 1, F, (B.take q ++ (k : Int) :: B.drop q), by omega, by go_num, HN.out, hfp.out, hfo.out, hb9⟩
              case measure => simp [intOf]; omega
          · obtain rfl : q = nB := by omega
            have ubt : decide ((q : Int) < (q : Int)) = false := by simp
            have HN : Hid (JSt f s (k + 1) F (B.take q ++ (k : Int) :: B.drop q)) := HJ.out.other HE.out hpas (fun z hz => by
              rw [List.getElem?_eq_none (by rw [← HNB.out]; exact Nat.le_refl _)] at hz; cases hz)
            have hxl := later_cell (w := wr)
            go_wp2_with fail
            refine wp_region_later (by kernel_rfl) (by kernel_rfl) ?_
            repeat (go_big_quiet_step (fail))
            refine wpQuiet_nil ?_
            rintro w3 ⟨⟨_, hb3⟩, rfl⟩
            have hb4 := hb2.trans (hb3.mono hb2.size)
            clear hxl hb2 hbw hb3 hown2 hpas
            by_cases hcq : q = cB
            · subst hcq
              have hown3 := own_later HOB.out hb4
              have hoth3 := own_later HOF.out hb4
              have hbw3 := HB.out.trans (hb4.mono HB.out.size)
              have hsz := hbw3.size
              have hg3 : gB < w3.heap.size := (hown3.lt gB rfl).2
              have hm3 : (w3.alloc (.cells #[] 3)).ownsRow w3.heap.size 3 1 (.slice (some ⟨w3.heap.size, 0, none⟩) 0 0) 0 (([] : List Int).map (Value.int .i64)) := World.ownsRow_made (base := w3.heap.size) (e := 3) (size := 1) w3 #[] 0 (Nat.le_refl _) (by unfold maxLen; omega) (by simp)
              have hba := (Below.refl w3.heap.size w3).alloc (Nat.le_refl _) (.cells #[] 3)
              have hsrc := (own_rowI (own_later hown3 hba)).take (m := q) (by omega)
              have HO3 := Lib.hid hown3
              have HOth := Lib.hid hoth3
              clear hb4 hown3 hoth3
              go_wp2_with (at_builtin; refine app_ints _ rfl (.tmp 83) (.tmp 86) rfl w3.heap.size _ 0 [] rfl hm3 (some ⟨gB, 0, none⟩) q q (B.take q) rfl hsrc (by omega) (by simp) ?_)
              intro v1 w4 hown4 hgr4
              have hb5 : Below w3.heap.size w3 w4 := hba.grown hgr4 (by simp) (fun p hp => by simp [Value.ownBlock] at hp; omega)
              clear hm3 hba hsrc hgr4
              have hsz4 := hb5.size
              have hm4 : Hid ((w4.alloc (.cells #[.int .i64 (k : Int)] 3)).ownsRow w3.heap.size 3 1 v1 q ((B.take q).map (Value.int .i64))) := by
                show World.ownsRow _ _ _ _ _ _ _
                refine own_later ?_ ((Below.refl w4.heap.size w4).alloc (Nat.le_refl _) (.cells #[.int .i64 (k : Int)] 3))
                simpa using hown4
              have hb6 := hb5.alloc hsz4 (.cells #[.int .i64 (k : Int)] 3)
              have hri : RowI (w4.alloc (.cells #[.int .i64 (k : Int)] 3)) (some ⟨w4.heap.size, 0, none⟩) 1 [(k : Int)] := (row_lit w4 [(k : Int)] 1 rfl).rowI
              clear hown4 hb5
              go_wp2_with (at_builtin; refine app_ints _ rfl (.tmp 88) (.tmp 90) rfl w3.heap.size v1 q (B.take q) rfl hm4.out (some ⟨w4.heap.size, 0, none⟩) 1 1 [(k : Int)] rfl hri (by omega) (by simp; omega) ?_)
              intro v2 w5 hown7 hgr5
              have hb7 : Below w3.heap.size w3 w5 := hb6.grown hgr5 hb6.size (fun p hp => (hm4.out.lt p hp).1)
              have hm5 : Hid (w5.ownsRow w3.heap.size 3 1 v2 (q + 1) ((B.take q ++ [(k : Int)]).map (Value.int .i64))) := by show World.ownsRow _ _ _ _ _ _ _; simpa using hown7
              have hown3 := HO3.out
              have hsrc : RowI w5 (some ⟨gB, 0, none⟩) 0 [] := RowI.nil _ _
              have hsz5 := hb7.size
              clear hm4 hb6 hri hown7 hgr5 hsz4 hown3
              go_wp2_with (at_builtin; refine app_ints _ rfl (.tmp 92) (.tmp 95) rfl w3.heap.size v2 (q + 1) (B.take q ++ [(k : Int)]) rfl hm5.out (some ⟨gB, 0, none⟩) 0 0 [] rfl hsrc (by omega) hsz5 ?_)
              intro v3 w6 hown8 hgr6
              have hb8 : Below w3.heap.size w3 w6 := hb7.grown hgr6 hsz5 (fun p hp => (hm5.out.lt p hp).1)
              have hfo : Hid (InsL w.heap.size v3 (B.take q ++ (k : Int) :: B.drop q) w6) := by
                have e2 : (B.take q ++ (k : Int) :: B.drop q) = (B.take q ++ [(k : Int)]) ++ [] := by rw [List.drop_of_length_le (by rw [← HNB.out]; exact Nat.le_refl _)]; simp
                have e1 : q + 1 + 0 = (B.take q ++ (k : Int) :: B.drop q).length := by
                  rw [e2]; simp only [List.length_append, List.length_take, List.length_singleton, List.length_nil, ← HNB.out]; omega
                have hown9 : w6.ownsRow w3.heap.size 3 1 v3 (B.take q ++ (k : Int) :: B.drop q).length ((B.take q ++ (k : Int) :: B.drop q).map (Value.int .i64)) := by
                  rw [← e1, e2]; simpa using hown8
                obtain ⟨g9, cap9, ev, hc9⟩ := own_form hown9 (by rw [← e1]; omega)
                exact ⟨g9, cap9, ev, World.ownsRow.mono hown9 hsz⟩
              have hfp : Hid (InsL w.heap.size (.slice (some ⟨gF, 0, none⟩) nF cF) F w6) := ⟨_, _, by rw [← HNF.out], by rw [← HNF.out]; exact own_later HOth.out hb8⟩
              have hb9 := hbw3.trans (hb8.mono hsz)
              clear hown8 hgr6 hb8 hb7 hm5 hsrc hbw3 HO3 HOth
              go_wp2_with fail
              go_roundw
              case rel => exact ⟨k + 1, F, (B.take q ++ (k : Int) :: B.drop q), by omega, by go_num, HN.out, hfp.out, hfo.out, hb9⟩
              case measure => simp [intOf]; omega
            · have hqci : (q : Int) ≤ (cB : Int) := by omega
              have hqn : cB ≠ q := by omega
              have hown3 := own_later HOB.out hb4
              have hoth3 := own_later HOF.out hb4
              have hbw3 := HB.out.trans (hb4.mono HB.out.size)
              have hsz := hbw3.size
              have hg3 : gB < w3.heap.size := (hown3.lt gB rfl).2
              have hm3 : (w3.alloc (.cells #[] 3)).ownsRow w3.heap.size 3 1 (.slice (some ⟨w3.heap.size, 0, none⟩) 0 0) 0 (([] : List Int).map (Value.int .i64)) := World.ownsRow_made (base := w3.heap.size) (e := 3) (size := 1) w3 #[] 0 (Nat.le_refl _) (by unfold maxLen; omega) (by simp)
              have hba := (Below.refl w3.heap.size w3).alloc (Nat.le_refl _) (.cells #[] 3)
              have hsrc := (own_rowI (own_later hown3 hba)).take (m := q) (by omega)
              have HO3 := Lib.hid hown3
              have HOth := Lib.hid hoth3
              clear hb4 hown3 hoth3
              go_wp2_with (at_builtin; refine app_ints _ rfl (.tmp 83) (.tmp 86) rfl w3.heap.size _ 0 [] rfl hm3 (some ⟨gB, 0, none⟩) q cB (B.take q) rfl hsrc (by omega) (by simp) ?_)
              intro v1 w4 hown4 hgr4
              have hb5 : Below w3.heap.size w3 w4 := hba.grown hgr4 (by simp) (fun p hp => by simp [Value.ownBlock] at hp; omega)
              clear hm3 hba hsrc hgr4
              have hsz4 := hb5.size
              have hm4 : Hid ((w4.alloc (.cells #[.int .i64 (k : Int)] 3)).ownsRow w3.heap.size 3 1 v1 q ((B.take q).map (Value.int .i64))) := by
                show World.ownsRow _ _ _ _ _ _ _
                refine own_later ?_ ((Below.refl w4.heap.size w4).alloc (Nat.le_refl _) (.cells #[.int .i64 (k : Int)] 3))
                simpa using hown4
              have hb6 := hb5.alloc hsz4 (.cells #[.int .i64 (k : Int)] 3)
              have hri : RowI (w4.alloc (.cells #[.int .i64 (k : Int)] 3)) (some ⟨w4.heap.size, 0, none⟩) 1 [(k : Int)] := (row_lit w4 [(k : Int)] 1 rfl).rowI
              clear hown4 hb5
              go_wp2_with (at_builtin; refine app_ints _ rfl (.tmp 88) (.tmp 90) rfl w3.heap.size v1 q (B.take q) rfl hm4.out (some ⟨w4.heap.size, 0, none⟩) 1 1 [(k : Int)] rfl hri (by omega) (by simp; omega) ?_)
              intro v2 w5 hown7 hgr5
              have hb7 : Below w3.heap.size w3 w5 := hb6.grown hgr5 hb6.size (fun p hp => (hm4.out.lt p hp).1)
              have hm5 : Hid (w5.ownsRow w3.heap.size 3 1 v2 (q + 1) ((B.take q ++ [(k : Int)]).map (Value.int .i64))) := by show World.ownsRow _ _ _ _ _ _ _; simpa using hown7
              have hown3 := HO3.out
              have hsrc : RowI w5 (some ⟨gB, q, none⟩) 0 [] := RowI.nil _ _
              have hsz5 := hb7.size
              clear hm4 hb6 hri hown7 hgr5 hsz4 hown3
              go_wp2_with (at_builtin; refine app_ints _ rfl (.tmp 92) (.tmp 95) rfl w3.heap.size v2 (q + 1) (B.take q ++ [(k : Int)]) rfl hm5.out (some ⟨gB, q, none⟩) 0 (cB - q) [] rfl hsrc (by omega) hsz5 ?_)
              intro v3 w6 hown8 hgr6
              have hb8 : Below w3.heap.size w3 w6 := hb7.grown hgr6 hsz5 (fun p hp => (hm5.out.lt p hp).1)
              have hfo : Hid (InsL w.heap.size v3 (B.take q ++ (k : Int) :: B.drop q) w6) := by
                have e2 : (B.take q ++ (k : Int) :: B.drop q) = (B.take q ++ [(k : Int)]) ++ [] := by rw [List.drop_of_length_le (by rw [← HNB.out]; exact Nat.le_refl _)]; simp
                have e1 : q + 1 + 0 = (B.take q ++ (k : Int) :: B.drop q).length := by
                  rw [e2]; simp only [List.length_append, List.length_take, List.length_singleton, List.length_nil, ← HNB.out]; omega
                have hown9 : w6.ownsRow w3.heap.size 3 1 v3 (B.take q ++ (k : Int) :: B.drop q).length ((B.take q ++ (k : Int) :: B.drop q).map (Value.int .i64)) := by
                  rw [← e1, e2]; simpa using hown8
                obtain ⟨g9, cap9, ev, hc9⟩ := own_form hown9 (by rw [← e1]; omega)
                exact ⟨g9, cap9, ev, World.ownsRow.mono hown9 hsz⟩
              have hfp : Hid (InsL w.heap.size (.slice (some ⟨gF, 0, none⟩) nF cF) F w6) := ⟨_, _, by rw [← HNF.out], by rw [← HNF.out]; exact own_later HOth.out hb8⟩
              have hb9 := hbw3.trans (hb8.mono hsz)
              clear hown8 hgr6 hb8 hb7 hm5 hsrc hbw3 HO3 HOth
              go_wp2_with fail
              go_roundw
              case rel => exact ⟨k + 1, F, (B.take q ++ (k : Int) :: B.drop q), by omega, by go_num, HN.out, hfp.out, hfo.out, hb9⟩
              case measure => simp [intOf]; omega
    · obtain rfl : k = n := by omega
      have hbt : decide ((k : Int) < (k : Int)) = false := by simp
      have hsrc := own_rowI HOB.out
      have hsz := hb.size
      have hown := HOF.out
      clear HOF HOB
      go_wp2_with (at_builtin; refine app_ints _ rfl (.tmp 97) (.tmp 98) rfl w.heap.size _ nF F rfl hown (some ⟨gB, 0, none⟩) nB cB B rfl hsrc (by omega) hsz ?_)
      intro v3 w6 hown8 hgr6
      have hb8 : Below w.heap.size w w6 := hb.grown hgr6 hsz (fun p hp => (hown.lt p hp).1)
      have hfo : Hid (w6.ownsRow w.heap.size 3 1 v3 k ((F ++ B).map (Value.int .i64))) := by
        show World.ownsRow _ _ _ _ _ _ _
        simpa using hown8
      clear hown8 hgr6 hown hsrc hb
      go_wp2_with fail
      go_ret
      exact ⟨v3, F ++ B, rfl, HJ.out.1, HJ.out.2.1, hfo.out, hb8⟩
end Go.Proofs.Ytnfcigbiebbjdaa
