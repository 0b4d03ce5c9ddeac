/-
  Smith's order as the document makes it: the walk.
  Conditions: the jobs are valid; the slices start at the heads of blocks.
-/
import Derived.Test.YtnfcigbiebbjdaaRSmith
namespace Go.Proofs.Ytnfcigbiebbjdaa
open Go.RowKit

/-- The first q of the order are not behind k. -/
def Passed (l : List Jb) (k : Nat) (o : List Int) (q : Nat) : Prop := ∀ z ∈ o.take q, ¬ smithC l k z < 0
theorem RowI.drop {w : World} {a : Addr} {n m : Nat} {l : List Int} (h : RowI w (some a) n l) (hm : m ≤ n) : RowI w (some (a.add m)) (n - m) (l.drop m) :=
  ⟨by rw [List.length_drop, h.1], fun h0 => by
    obtain ⟨a', e, hg, hc⟩ := h.2 (by omega)
    cases e
    refine ⟨_, rfl, by rw [add_block]; exact hg, fun k v hk => ?_⟩
    rw [List.getElem?_drop] at hk
    rw [Addr.add_add]
    exact hc _ _ hk⟩
theorem own_form {w : World} {base n : Nat} {v : Value} {xs : List Value} (h : w.ownsRow base 3 1 v n xs) (hn : 0 < n) : ∃ g cap, v = .slice (some ⟨g, 0, none⟩) n cap ∧ n ≤ cap := by
  rcases h.2 with ⟨_, h2⟩ | ⟨g, cap, cur, h1, _, _, h2, _⟩
  · omega
  · exact ⟨g, cap, h1, h2⟩
/-- The order so far. -/
def InsK (w0 : World) (l : List Jb) (k : Nat) (v : Value) (wr : World) : Prop :=
  ∃ (g cap : Nat) (o : List Int), v = .slice (some ⟨g, 0, none⟩) k cap ∧ k ≤ cap ∧ o.Perm (nums k) ∧ o.Pairwise (leOf (smithC l)) ∧ wr.ownsRow w0.heap.size 3 1 v k (o.map (Value.int .i64)) ∧ Below w0.heap.size w0 wr
set_option maxRecDepth 100000 in
set_option maxHeartbeats 4000000 in
theorem rSmith_yes (A : Option Addr) (n c : Nat) (l : List Jb) (w : World) (rA : JobsH w A n l) (hv : validB l = true) :
    Calls Try.prog 28 #[.slice A n c] w fun e w' => ∃ v, e = .returned v ∧ InsK w l n v w' := by
  have hn : n ≤ 64 := by
    have h := hv
    unfold validB at h
    simp only [Bool.and_eq_true, decide_eq_true_eq] at h
    rw [← rA.1]; exact h.1
  have HT : Hid (∀ (k : Nat) (x : Jb), l[k]? = some x → Tame x) := fun k x h => validB_tame hv h
  have HF := Lib.hid (validB_fair hv)
  clear hv
  have hb0 : Below w.heap.size w (w.alloc (.cells #[] 3)) := (Below.refl _ _).alloc (Nat.le_refl _) _
  have hmade : (w.alloc (.cells #[] 3)).ownsRow w.heap.size 3 1 (.slice (some ⟨w.heap.size, 0, none⟩) 0 0) 0 (([] : List Int).map (Value.int .i64)) := World.ownsRow_made (base := w.heap.size) (e := 3) (size := 1) w #[] 0 (by simp) (by unfold maxLen; omega) (by simp)
  have hst : InsK w l 0 (.slice (some ⟨w.heap.size, 0, none⟩) 0 0) (w.alloc (.cells #[] 3)) := ⟨_, _, [], rfl, Nat.le_refl _, by simp [nums], List.Pairwise.nil, hmade, hb0⟩
  have HSt := Lib.hid hst
  clear hb0 hmade hst
  go_enter Try.func28, Try.ntmps28
  go_wp2_with fail
  go_loopw [3, 4] (fun v i wr => ∃ k : Nat, k ≤ n ∧ i = .int .i64 k ∧ Hid (InsK w l k v wr)) (fun _ i _ => n - (intOf i).toNat)
  case atStart => exact ⟨0, Nat.zero_le _, rfl, HSt⟩
  case round =>
    clear HSt
    obtain ⟨k, hk, rfl, ⟨g, cap, o, rfl, hkc, hP, hS, hown, hb⟩⟩ := hrel
    obtain ⟨W1, hW1⟩ : ∃ W1, W1 = wr := ⟨_, rfl⟩
    subst hW1
    have HP := Lib.hid hP
    have HS := Lib.hid hS
    have hol : o.length = k := by rw [hP.length_eq, nums_length]
    have HOL := Lib.hid hol
    have HMem : Hid (∀ z ∈ o, 0 ≤ z ∧ z < (k : Int)) := fun z hz => mem_nums.1 (hP.mem_iff.1 hz)
    clear hP hS hol
    by_cases hlt : k < n
    · have hbt : decide ((k : Int) < (n : Int)) = true := by simp; omega
      have hbt2 : (k : Int) < (n : Int) := by omega
      go_wp2_with fail
      go_loopw [5] (fun i wi => ∃ q : Nat, q ≤ k ∧ i = .int .i64 q ∧ Hid (Passed l k o q) ∧ Below W1.heap.size W1 wi) (fun i _ => k - (intOf i).toNat)
      case atStart => exact ⟨0, Nat.zero_le _, rfl, (fun z h => by simp at h), Below.refl _ _⟩
      case round =>
        obtain ⟨q, hq, rfl, hA, hb2⟩ := hrel
        have hbw := hb.trans (hb2.mono hb.size)
        have hown2 := own_later hown hb2
        by_cases hqk : q < k
        · have ubt : decide ((q : Int) < (k : Int)) = true := by simp; omega
          have ubt2 : (q : Int) < (k : Int) := by omega
          obtain ⟨g0, cap0, e1, _, hg2⟩ := hown2.form (by omega)
          cases e1
          have hqo : o[q]? = some (o.getD q 0) := getD_get (by rw [HOL.out]; exact hqk)
          have hc := hown2.cellAt q (by omega)
          rw [List.getElem?_map, hqo] at hc
          have hx := HMem.out _ (List.mem_of_getElem? hqo)
          have HQ := Lib.hid hqo
          clear hqo
          generalize o.getD q 0 = x at *
          obtain ⟨x0, x1⟩ := hx
          obtain ⟨i, rfl⟩ := Int.eq_ofNat_of_zero_le x0
          have hik : i < n := by omega
          have hiki : (i : Int) < (n : Int) := by omega
          have hc2 : wr.cell? ⟨g, q, none⟩ = some (.int .i64 i) := hc
          obtain ⟨ga, B, m, cB, e1, hga, hj, c0, c1, c2, c3, c4, _⟩ := rA.both hbw hlt
          subst e1
          obtain ⟨ga', B', m', cB', e1, _, hj', d0, d1, d2, d3, d4, _⟩ := rA.both hbw hik
          cases e1
          have M1 := fun w => Lib.hid (smaller_any (jat l k) (jat l i) (.slice B m cB) (.slice B' m' cB') w (HT.out k _ hj) (HT.out i _ hj'))
          have HM1 := Lib.hid M1
          have hneg := Lib.hid (smithC_neg l HF.out (k : Int) (i : Int))
          have hxl := later_cell (w := wr)
          clear hc hj hj' M1 x0 x1 hown2
          generalize jat l k = j1 at *
          generalize jat l i = j2 at *
          cases hsm : smallB j1 j2 with
          | false =>
            rw [hsm] at HM1 hneg
            have HN : Hid (Passed l k o (q + 1)) := by
              intro z hz
              rw [List.take_add_one, HQ.out] at hz
              rcases List.mem_append.1 hz with hz | hz
              · exact hA.out z hz
              · obtain rfl : z = (i : Int) := by simpa using hz
                rw [hneg.out]; simp
            clear hneg hA hsm
            go_wp2_with fail
            refine wp_region_later (by kernel_rfl) (by kernel_rfl) ?_
            repeat (go_big_quiet_step ((go_at_call 63; exact later_call (HM1.out _).out)))
            refine wpQuiet_nil ?_
            rintro w3 ⟨⟨_, hb3⟩, rfl⟩
            have hb4 := hb2.trans (hb3.mono hb2.size)
            clear hxl hb2 hbw hb3 HM1 c0 c1 c2 c3 c4 d0 d1 d2 d3 d4 hc2
            go_wp2_with fail
            go_roundw
            case rel => exact ⟨q + 1, by omega, by go_num, HN.out, hb4⟩
            case measure => simp [intOf]; omega
          | true =>
            rw [hsm] at HM1 hneg
            have HN := Lib.hid (ins_next (smith_swo l HF.out) HP.out HS.out hA.out (fun z hz => by
              rw [HQ.out] at hz
              injection hz with hz
              subst hz
              exact hneg.out.2 rfl))
            clear hneg hA hsm
            go_wp2_with fail
            refine wp_region_later (by kernel_rfl) (by kernel_rfl) ?_
            repeat (go_big_quiet_step ((go_at_call 63; exact later_call (HM1.out _).out)))
            refine wpQuiet_nil ?_
            rintro w3 ⟨⟨_, hb3⟩, rfl⟩
            have hb4 := hb2.trans (hb3.mono hb2.size)
            clear hxl hb2 hbw hb3 HM1 c0 c1 c2 c3 c4 d0 d1 d2 d3 d4 hc2
            have hown3 := own_later hown hb4
            have hbw3 := hb.trans (hb4.mono hb.size)
            have hsz := hbw3.size
            have hg3 : g < w3.heap.size := (hown3.lt g rfl).2
            have hm3 : (w3.alloc (.cells #[] 3)).ownsRow w3.heap.size 3 1 (.slice (some ⟨w3.heap.size, 0, none⟩) 0 0) 0 (([] : List Int).map (Value.int .i64)) := World.ownsRow_made (base := w3.heap.size) (e := 3) (size := 1) w3 #[] 0 (Nat.le_refl _) (by unfold maxLen; omega) (by simp)
            have hba := (Below.refl w3.heap.size w3).alloc (Nat.le_refl _) (.cells #[] 3)
            have hsrc := (own_rowI (own_later hown3 hba)).take (m := q) (by omega)
            have hqc : q ≤ cap := by omega
            have hqci : (q : Int) ≤ (cap : Int) := by omega
            clear hown hb hb4
            go_wp2_with (at_builtin; refine app_ints _ rfl (.tmp 35) (.tmp 38) rfl w3.heap.size _ 0 [] rfl hm3 (some ⟨g, 0, none⟩) q cap (o.take q) rfl hsrc (by omega) (by simp) ?_)
            intro v1 w4 hown4 hgr4
            have hb5 : Below w3.heap.size w3 w4 := hba.grown hgr4 (by simp) (fun p hp => by simp [Value.ownBlock] at hp; omega)
            clear hm3 hba hsrc hgr4
            have hsz4 := hb5.size
            have hm4 : Hid ((w4.alloc (.cells #[.int .i64 (k : Int)] 3)).ownsRow w3.heap.size 3 1 v1 q ((o.take q).map (Value.int .i64))) := by
              show World.ownsRow _ _ _ _ _ _ _
              refine own_later ?_ ((Below.refl w4.heap.size w4).alloc (Nat.le_refl _) (.cells #[.int .i64 (k : Int)] 3))
              simpa using hown4
            have hb6 := hb5.alloc hsz4 (.cells #[.int .i64 (k : Int)] 3)
            have hri : RowI (w4.alloc (.cells #[.int .i64 (k : Int)] 3)) (some ⟨w4.heap.size, 0, none⟩) 1 [(k : Int)] := (row_lit w4 [(k : Int)] 1 rfl).rowI
            clear hown4 hb5
            go_wp2_with (at_builtin; refine app_ints _ rfl (.tmp 40) (.tmp 42) rfl w3.heap.size v1 q (o.take q) rfl hm4.out (some ⟨w4.heap.size, 0, none⟩) 1 1 [(k : Int)] rfl hri (by omega) (by simp; omega) ?_)
            intro v2 w5 hown7 hgr5
            have hb7 : Below w3.heap.size w3 w5 := hb6.grown hgr5 hb6.size (fun p hp => (hm4.out.lt p hp).1)
            have hm5 : Hid (w5.ownsRow w3.heap.size 3 1 v2 (q + 1) ((o.take q ++ [(k : Int)]).map (Value.int .i64))) := by show World.ownsRow _ _ _ _ _ _ _; simpa using hown7
            have hsrc : RowI w5 (some ⟨g, q, none⟩) (k - q) (o.drop q) := by have h := RowI.drop (own_rowI (own_later hown3 hb7)) (m := q) (by omega); rwa [Addr.add_lit, Nat.zero_add] at h
            have hsz5 := hb7.size
            clear hm4 hb6 hri hown7 hgr5 hsz4
            go_wp2_with (at_builtin; refine app_ints _ rfl (.tmp 44) (.tmp 47) rfl w3.heap.size v2 (q + 1) (o.take q ++ [(k : Int)]) rfl hm5.out (some ⟨g, q, none⟩) (k - q) (cap - q) (o.drop q) rfl hsrc (by omega) hsz5 ?_)
            intro v3 w6 hown8 hgr6
            have hb8 : Below w3.heap.size w3 w6 := hb7.grown hgr6 hsz5 (fun p hp => (hm5.out.lt p hp).1)
            have hfo : Hid (InsK w l (k + 1) v3 w6) := by
              have hown9 : w6.ownsRow w3.heap.size 3 1 v3 (q + 1 + (k - q)) (((o.take q ++ [(k : Int)]) ++ o.drop q).map (Value.int .i64)) := by simpa using hown8
              have e1 : q + 1 + (k - q) = k + 1 := by omega
              rw [e1] at hown9
              obtain ⟨g9, cap9, ev, hc9⟩ := own_form hown9 (by omega)
              refine ⟨g9, cap9, o.take q ++ (k : Int) :: o.drop q, ev, hc9, HN.out.1, HN.out.2, ?_, hbw3.trans (hb8.mono hsz)⟩
              have e2 : o.take q ++ (k : Int) :: o.drop q = (o.take q ++ [(k : Int)]) ++ o.drop q := by simp
              rw [e2]
              exact World.ownsRow.mono hown9 hsz
            clear hown8 hgr6 hb8 hb7 hm5 hsrc hown3 hbw3
            go_wp2_with fail
            go_roundw
            case rel => exact ⟨k + 1, by omega, by go_num, hfo⟩
            case measure => simp [intOf]; omega
        · obtain rfl : q = k := by omega
          have ubt : decide ((q : Int) < (q : Int)) = false := by simp
          have HN := Lib.hid (ins_next (smith_swo l HF.out) HP.out HS.out hA.out (fun z hz => by
            rw [List.getElem?_eq_none (by rw [HOL.out]; exact Nat.le_refl _)] at hz; cases hz))
          have hxl := later_cell (w := wr)
          go_wp2_with fail
          refine wp_region_later (by kernel_rfl) (by kernel_rfl) ?_
          repeat (go_big_quiet_step (fail))
          refine wpQuiet_nil ?_
          rintro w3 ⟨⟨_, hb3⟩, rfl⟩
          have hb4 := hb2.trans (hb3.mono hb2.size)
          clear hxl hb2 hbw hb3 hown2
          by_cases hcq : q = cap
          · subst hcq
            have hown3 := own_later hown hb4
            have hbw3 := hb.trans (hb4.mono hb.size)
            have hsz := hbw3.size
            have hg3 : g < w3.heap.size := (hown3.lt g rfl).2
            have hm3 : (w3.alloc (.cells #[] 3)).ownsRow w3.heap.size 3 1 (.slice (some ⟨w3.heap.size, 0, none⟩) 0 0) 0 (([] : List Int).map (Value.int .i64)) := World.ownsRow_made (base := w3.heap.size) (e := 3) (size := 1) w3 #[] 0 (Nat.le_refl _) (by unfold maxLen; omega) (by simp)
            have hba := (Below.refl w3.heap.size w3).alloc (Nat.le_refl _) (.cells #[] 3)
            have hsrc := (own_rowI (own_later hown3 hba)).take (m := q) (by omega)
            skip
            clear hown hb hb4
            go_wp2_with (at_builtin; refine app_ints _ rfl (.tmp 35) (.tmp 38) rfl w3.heap.size _ 0 [] rfl hm3 (some ⟨g, 0, none⟩) q q (o.take q) rfl hsrc (by omega) (by simp) ?_)
            intro v1 w4 hown4 hgr4
            have hb5 : Below w3.heap.size w3 w4 := hba.grown hgr4 (by simp) (fun p hp => by simp [Value.ownBlock] at hp; omega)
            clear hm3 hba hsrc hgr4
            have hsz4 := hb5.size
            have hm4 : Hid ((w4.alloc (.cells #[.int .i64 (q : Int)] 3)).ownsRow w3.heap.size 3 1 v1 q ((o.take q).map (Value.int .i64))) := by
              show World.ownsRow _ _ _ _ _ _ _
              refine own_later ?_ ((Below.refl w4.heap.size w4).alloc (Nat.le_refl _) (.cells #[.int .i64 (q : Int)] 3))
              simpa using hown4
            have hb6 := hb5.alloc hsz4 (.cells #[.int .i64 (q : Int)] 3)
            have hri : RowI (w4.alloc (.cells #[.int .i64 (q : Int)] 3)) (some ⟨w4.heap.size, 0, none⟩) 1 [(q : Int)] := (row_lit w4 [(q : Int)] 1 rfl).rowI
            clear hown4 hb5
            go_wp2_with (at_builtin; refine app_ints _ rfl (.tmp 40) (.tmp 42) rfl w3.heap.size v1 q (o.take q) rfl hm4.out (some ⟨w4.heap.size, 0, none⟩) 1 1 [(q : Int)] rfl hri (by omega) (by simp; omega) ?_)
            intro v2 w5 hown7 hgr5
            have hb7 : Below w3.heap.size w3 w5 := hb6.grown hgr5 hb6.size (fun p hp => (hm4.out.lt p hp).1)
            have hm5 : Hid (w5.ownsRow w3.heap.size 3 1 v2 (q + 1) ((o.take q ++ [(q : Int)]).map (Value.int .i64))) := by show World.ownsRow _ _ _ _ _ _ _; simpa using hown7
            have hsrc : RowI w5 (some ⟨g, 0, none⟩) (0) ([]) := RowI.nil _ _
            have hsz5 := hb7.size
            clear hm4 hb6 hri hown7 hgr5 hsz4
            go_wp2_with (at_builtin; refine app_ints _ rfl (.tmp 44) (.tmp 47) rfl w3.heap.size v2 (q + 1) (o.take q ++ [(q : Int)]) rfl hm5.out (some ⟨g, 0, none⟩) (0) (0) ([]) rfl hsrc (by omega) hsz5 ?_)
            intro v3 w6 hown8 hgr6
            have hb8 : Below w3.heap.size w3 w6 := hb7.grown hgr6 hsz5 (fun p hp => (hm5.out.lt p hp).1)
            have hfo : Hid (InsK w l (q + 1) v3 w6) := by
              have hown9 : w6.ownsRow w3.heap.size 3 1 v3 (q + 1 + (0)) (((o.take q ++ [(q : Int)]) ++ []).map (Value.int .i64)) := by simpa using hown8
              have e1 : q + 1 + (0) = q + 1 := by omega
              rw [e1] at hown9
              obtain ⟨g9, cap9, ev, hc9⟩ := own_form hown9 (by omega)
              refine ⟨g9, cap9, o.take q ++ (q : Int) :: o.drop q, ev, hc9, HN.out.1, HN.out.2, ?_, hbw3.trans (hb8.mono hsz)⟩
              have e2 : o.take q ++ (q : Int) :: o.drop q = (o.take q ++ [(q : Int)]) ++ [] := by rw [List.drop_of_length_le (by rw [HOL.out]; exact Nat.le_refl _)]; simp
              rw [e2]
              exact World.ownsRow.mono hown9 hsz
            clear hown8 hgr6 hb8 hb7 hm5 hsrc hown3 hbw3
            go_wp2_with fail
            go_roundw
            case rel => exact ⟨q + 1, by omega, by go_num, hfo⟩
            case measure => simp [intOf]; omega
          · skip
            have hown3 := own_later hown hb4
            have hbw3 := hb.trans (hb4.mono hb.size)
            have hsz := hbw3.size
            have hg3 : g < w3.heap.size := (hown3.lt g rfl).2
            have hm3 : (w3.alloc (.cells #[] 3)).ownsRow w3.heap.size 3 1 (.slice (some ⟨w3.heap.size, 0, none⟩) 0 0) 0 (([] : List Int).map (Value.int .i64)) := World.ownsRow_made (base := w3.heap.size) (e := 3) (size := 1) w3 #[] 0 (Nat.le_refl _) (by unfold maxLen; omega) (by simp)
            have hba := (Below.refl w3.heap.size w3).alloc (Nat.le_refl _) (.cells #[] 3)
            have hsrc := (own_rowI (own_later hown3 hba)).take (m := q) (by omega)
            have hqci : (q : Int) ≤ (cap : Int) := by omega
            have hqn : cap ≠ q := by omega
            clear hown hb hb4
            go_wp2_with (at_builtin; refine app_ints _ rfl (.tmp 35) (.tmp 38) rfl w3.heap.size _ 0 [] rfl hm3 (some ⟨g, 0, none⟩) q cap (o.take q) rfl hsrc (by omega) (by simp) ?_)
            intro v1 w4 hown4 hgr4
            have hb5 : Below w3.heap.size w3 w4 := hba.grown hgr4 (by simp) (fun p hp => by simp [Value.ownBlock] at hp; omega)
            clear hm3 hba hsrc hgr4
            have hsz4 := hb5.size
            have hm4 : Hid ((w4.alloc (.cells #[.int .i64 (q : Int)] 3)).ownsRow w3.heap.size 3 1 v1 q ((o.take q).map (Value.int .i64))) := by
              show World.ownsRow _ _ _ _ _ _ _
              refine own_later ?_ ((Below.refl w4.heap.size w4).alloc (Nat.le_refl _) (.cells #[.int .i64 (q : Int)] 3))
              simpa using hown4
            have hb6 := hb5.alloc hsz4 (.cells #[.int .i64 (q : Int)] 3)
            have hri : RowI (w4.alloc (.cells #[.int .i64 (q : Int)] 3)) (some ⟨w4.heap.size, 0, none⟩) 1 [(q : Int)] := (row_lit w4 [(q : Int)] 1 rfl).rowI
            clear hown4 hb5
            go_wp2_with (at_builtin; refine app_ints _ rfl (.tmp 40) (.tmp 42) rfl w3.heap.size v1 q (o.take q) rfl hm4.out (some ⟨w4.heap.size, 0, none⟩) 1 1 [(q : Int)] rfl hri (by omega) (by simp; omega) ?_)
            intro v2 w5 hown7 hgr5
            have hb7 : Below w3.heap.size w3 w5 := hb6.grown hgr5 hb6.size (fun p hp => (hm4.out.lt p hp).1)
            have hm5 : Hid (w5.ownsRow w3.heap.size 3 1 v2 (q + 1) ((o.take q ++ [(q : Int)]).map (Value.int .i64))) := by show World.ownsRow _ _ _ _ _ _ _; simpa using hown7
            have hsrc : RowI w5 (some ⟨g, q, none⟩) (0) ([]) := RowI.nil _ _
            have hsz5 := hb7.size
            clear hm4 hb6 hri hown7 hgr5 hsz4
            go_wp2_with (at_builtin; refine app_ints _ rfl (.tmp 44) (.tmp 47) rfl w3.heap.size v2 (q + 1) (o.take q ++ [(q : Int)]) rfl hm5.out (some ⟨g, q, none⟩) (0) (cap - q) ([]) rfl hsrc (by omega) hsz5 ?_)
            intro v3 w6 hown8 hgr6
            have hb8 : Below w3.heap.size w3 w6 := hb7.grown hgr6 hsz5 (fun p hp => (hm5.out.lt p hp).1)
            have hfo : Hid (InsK w l (q + 1) v3 w6) := by
              have hown9 : w6.ownsRow w3.heap.size 3 1 v3 (q + 1 + (0)) (((o.take q ++ [(q : Int)]) ++ []).map (Value.int .i64)) := by simpa using hown8
              have e1 : q + 1 + (0) = q + 1 := by omega
              rw [e1] at hown9
              obtain ⟨g9, cap9, ev, hc9⟩ := own_form hown9 (by omega)
              refine ⟨g9, cap9, o.take q ++ (q : Int) :: o.drop q, ev, hc9, HN.out.1, HN.out.2, ?_, hbw3.trans (hb8.mono hsz)⟩
              have e2 : o.take q ++ (q : Int) :: o.drop q = (o.take q ++ [(q : Int)]) ++ [] := by rw [List.drop_of_length_le (by rw [HOL.out]; exact Nat.le_refl _)]; simp
              rw [e2]
              exact World.ownsRow.mono hown9 hsz
            clear hown8 hgr6 hb8 hb7 hm5 hsrc hown3 hbw3
            go_wp2_with fail
            go_roundw
            case rel => exact ⟨q + 1, by omega, by go_num, hfo⟩
            case measure => simp [intOf]; omega
    · obtain rfl : k = n := by omega
      have hbt : decide ((k : Int) < (k : Int)) = false := by simp
      have hfo : Hid (InsK w l k (.slice (some ⟨g, 0, none⟩) k cap) W1) := ⟨g, cap, o, rfl, hkc, HP.out, HS.out, hown, hb⟩
      clear hown hb
      go_wp2_with fail
      go_ret
      exact ⟨_, rfl, hfo.out⟩
end Go.Proofs.Ytnfcigbiebbjdaa
