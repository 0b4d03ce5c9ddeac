/-
  Proved: DialRuns: between two pushes the main hand advances by the elapsed time if the chronograph runs, and does not move otherwise; pushing split twice at one time has no effect, if the split hand is not held.
  Conditions: none.
-/
import Derived.Test.YtjlnkghjiaglmaaOpens
import Derived.Test.YtjlnkghjiaglmaaOpenP
import Derived.Test.YtjlnkghjiaglmaaShift
import Derived.Test.YtjlnkghjiaglmaaLives
namespace Go.Proofs.Ytjlnkghjiaglmaa.dialRuns
open Go.ChangeShapes Go.WideShapes Go.ChangeAt Go.RowKit

theorem news_row2 {w : World} {g n : Nat} {l : List (Int × Int)} {o : Obj} (hr : Row2 w (some ⟨g, 0, none⟩) n l) (hn : 0 < n) : ∀ j u, (flat l)[j]? = some u → (w.alloc o).cell? ((⟨g, 0, none⟩ : Addr).add j) = some u := by
  obtain ⟨g', e, hg, hc⟩ := hr.2 hn
  cases e
  intro j u h
  have := flat_news (F := fun i => (w.alloc o).cell? ⟨g, i, none⟩) (l := l) (s := 0) (fun k t b hk => by
    have := hc k t b hk
    have hb : Below w.heap.size w (w.alloc o) := (Below.refl _ _).alloc (Nat.le_refl _) o
    exact ⟨by rw [Nat.zero_add]; exact (hb.cell (p := ⟨g, k * 2, none⟩) hg).trans this.1, by rw [Nat.zero_add]; exact (hb.cell (p := ⟨g, k * 2 + 1, none⟩) hg).trans this.2⟩) j u h
  rw [Addr.add_lit, Nat.zero_add]
  simpa using this
theorem cells_four (w : World) (a b c d : Value) (t : TypeId) : ∀ j u, [a, b, c, d][j]? = some u → (w.alloc (.cells #[a, b, c, d] t)).cell? ((⟨w.heap.size, 0, none⟩ : Addr).add j) = some u := by
  intro j u h
  have hc := (Blk.new w t #[a, b, c, d]).cell j
  rw [Addr.add_lit, Nat.zero_add, hc, ← h, List.getElem?_toArray]
theorem shown_form (c : Ch) (t : Int) : ∃ (r h : Bool) (M S : Int), shownV c t = .agg #[.bool r, .bool h, .int .i64 M, .int .i64 S] := ⟨_, _, _, _, rfl⟩
set_option maxRecDepth 100000 in
set_option maxHeartbeats 2000000 in
theorem walk_frh (A : Option Addr) (n cap : Nat) (a0 d0 : Int) (l : List (Int × Int)) (w : World) (hr : RowA w A n l) (L : List (Int × Int)) (hL : ordG 0 (l.take 40) = L) (j : Nat) (hN : min n 40 = j + 1) (hj : j ≤ 39) (last b0 : Int) (hlast : L[j]? = some (last, b0)) (l0 : 0 ≤ last) (l1 : last ≤ 100000) (a d : Int) (ha : a0 % 65536 = a) (hd : d0 % 65536 = d) (_a1 : 0 ≤ a) (_a2 : a ≤ 65535) (_d1 : 0 ≤ d) (_d2 : d ≤ 65535)
    (HV : Hid (ordL 0 L = true)) (HV3 : Hid (ordL 0 (L ++ [(last + a, 3), (last + a, 3)]) = true)) (M : Int) (_m0 : 0 ≤ M) (_m1 : M ≤ 1000000000) (S : Int) (r3 h3 : Bool) (M3 S3 : Int) 
    (HS1 : Hid (shownV (played (last + a) Ch.zero L) (last + a) = .agg #[.bool true, .bool true, .int .i64 M, .int .i64 S])) (HS2 : Hid (shownV (played (last + a + d) Ch.zero L) (last + a + d) = .agg #[.bool true, .bool true, .int .i64 (M + d), .int .i64 S]))
    (HS3 : Hid (shownV (played (last + a + d) Ch.zero (L ++ [(last + a, 3), (last + a, 3)])) (last + a + d) = .agg #[.bool r3, .bool h3, .int .i64 M3, .int .i64 S3])) :
    Calls Try.prog 5 #[.slice A n cap, .int .i64 a0, .int .i64 d0] w fun e w' => e = .returned (.bool true) ∧ Below w.heap.size w w' := by
  go_enter Try.func5, Try.ntmps5
  have hw0 : Below w.heap.size w w := Below.refl _ _
  go_wp2_with fail
  refine (ordered_any A n cap l w hr).mono ?_; rintro e w1 ⟨B, cB, rfl, hrB, hb1, hnB⟩
  have hw1 := hw0.trans (hb1.mono (by first | omega | (simp; omega) | simp))
  have s1 := hb1.size
  rw [hL, hN] at hrB
  clear hL
  have hP1 : Below w1.heap.size w1 w1 := Below.refl _ _
  have e1 := and_65535 a0
  have e2 := and_65535 d0
  rw [ha] at e1
  rw [hd] at e2
  obtain ⟨g, t, b, rfl, hg, hx, hc1, hc2⟩ := hrB.at_ (Nat.lt_succ_self j)
  rw [hlast] at hx
  cases hx
  clear hc2
  obtain ⟨i0, hi, hz0, hz1, hz2⟩ := info_parts Try.info36
  have Hi := Lib.hid hi
  have Hz0 := Lib.hid hz0
  have Hz1 := Lib.hid hz1
  have Hz2 := Lib.hid hz2
  clear hi hz0 hz1 hz2
  go_wp2_with fail
  refine (Play_yes (some ⟨g, 0, none⟩) (j + 1) cB L (last + a) _ (hrB.later hP1) (by omega) HV.out (by omega) (by omega)).mono ?_; rw [HS1.out]; rintro e w2 ⟨rfl, hb2⟩
  have hw2 := hw1.trans (hb2.mono (by first | omega | (simp; omega) | simp))
  have s2 := hb2.size
  have hP2 := hP1.trans (hb2.mono (by first | omega | (simp; omega) | simp))
  go_wp2_with fail
  refine (Play_yes (some ⟨g, 0, none⟩) (j + 1) cB L (last + a + d) _ (hrB.later (hP2.alloc (by first | omega | (simp; omega) | simp) _)) (by omega) HV.out (by omega) (by omega)).mono ?_; rw [HS2.out]; rintro e w3 ⟨rfl, hb3⟩
  have hC3 := (Blk.new w2 38 #[.bool true, .bool true, .int .i64 M, .int .i64 S]).later hb3
  have hw3 := (hw2.alloc (by first | omega | (simp; omega) | simp) _).trans (hb3.mono (by first | omega | (simp; omega) | simp))
  have s3 := hb3.size
  simp at s3
  have lC3 := hC3.lt
  have kC := hC3.cell
  have hP3 := (hP2.alloc (by first | omega | (simp; omega) | simp) _).trans (hb3.mono (by first | omega | (simp; omega) | simp))
  have hrow : Row2 (w3.alloc (.cells #[.bool true, .bool true, .int .i64 (M + d), .int .i64 S] 38)) (some ⟨g, 0, none⟩) (j + 1) L := (hrB.later (hP3.alloc (by first | omega | (simp; omega) | simp) _))
  have hmade : ((w3.alloc (.cells #[.bool true, .bool true, .int .i64 (M + d), .int .i64 S] 38)).alloc (.cells #[] 36)).ownsRow (w3.alloc (.cells #[.bool true, .bool true, .int .i64 (M + d), .int .i64 S] 38)).heap.size 36 2 (.slice (some ⟨(w3.alloc (.cells #[.bool true, .bool true, .int .i64 (M + d), .int .i64 S] 38)).heap.size, 0, none⟩) 0 0) 0 [] := World.ownsRow_made (base := (w3.alloc (.cells #[.bool true, .bool true, .int .i64 (M + d), .int .i64 S] 38)).heap.size) (e := 36) (size := 2) (w3.alloc (.cells #[.bool true, .bool true, .int .i64 (M + d), .int .i64 S] 38)) #[] 0 (by simp) (by unfold maxLen; omega) (by simp)
  have hmb := fun k hk => (hmade.lt k hk).1
  have hb0 := (Below.refl (w3.alloc (.cells #[.bool true, .bool true, .int .i64 (M + d), .int .i64 S] 38)).heap.size (w3.alloc (.cells #[.bool true, .bool true, .int .i64 (M + d), .int .i64 S] 38))).alloc (Nat.le_refl _) (.cells #[] 36)
  rw [World.size_alloc] at hmade
  have hnews := news_row2 (o := .cells #[] 36) hrow (by omega)
  go_wp2_with (at_builtin; refine wpList_append_lies _ rfl (.tmp 49) (.tmp 50) 33 rfl (w3.heap.size + 1) 36 i0 (.agg #[.int .i64 0, .int .i64 0]) 2 16 Try.underlying33 Hi.out Hz0.out Hz1.out Hz2.out rfl (by decide) _ _ _ rfl hmade ⟨g, 0, none⟩ (j + 1) cB (flat L) rfl ?c1 hnews ?c2 ?c3 ?c4 ?c5 ?c6 _ rfl ?_)
  case c1 => rw [flat_length, hrow.1]
  case c2 => exact fun u hu => flat_one u hu
  case c3 => omega
  case c4 => unfold maxLen; omega
  case c5 => omega
  case c6 => simp
  intro gA capA wA hownA hgA _ _
  try simp only [List.nil_append, Nat.zero_add] at hownA
  have hbA := hb0.grown hgA (by simp) (fun k hk => by first | exact hmb k (by simpa using hk) | (simp at hk; simp; omega))
  have zA := hbA.size
  simp at zA
  go_wp2_with (at_builtin; refine wpList_append_lies _ rfl (.tmp 51) (.tmp 56) 33 rfl (w3.heap.size + 1) 36 i0 (.agg #[.int .i64 0, .int .i64 0]) 2 16 Try.underlying33 Hi.out Hz0.out Hz1.out Hz2.out rfl (by decide) _ _ _ rfl (hownA.alloc _) ⟨wA.heap.size, 0, none⟩ 2 2 (flat [(last + a, 3), (last + a, 3)]) rfl rfl ?d1 ?d2 (by decide) ?d4 ?d5 ?d6 _ rfl ?_)
  case d1 => exact cells_four _ _ _ _ _ _
  case d2 => exact fun u hu => flat_one u hu
  case d4 => unfold maxLen; omega
  case d5 => omega
  case d6 => simp; omega
  intro gB capB w4 hownB hgB _ _
  have hb4 := (hbA.alloc (by simp; omega) (.cells #[.int .i64 (last + a), .int .i64 3, .int .i64 (last + a), .int .i64 3] 36)).grown hgB (by simp; omega) (fun k hk => by have := (hownA.lt k hk).1; simp; omega)
  rw [← flat_append] at hownB
  have hrX := own_row2 hownB
  clear hownA hownB hgA hgB hbA hb0 hmb hmade
  have hC4 := (hC3.alloc _).later hb4
  have hD4 := (Blk.new w3 38 #[.bool true, .bool true, .int .i64 (M + d), .int .i64 S]).later hb4
  have hw4 := (hw3.alloc (by first | omega | (simp; omega) | simp) _).trans (hb4.mono (by first | omega | (simp; omega) | simp))
  have s4 := hb4.size
  simp at s4
  have lC4 := hC4.lt
  have lD4 := hD4.lt
  clear kC
  have kC := hC4.cell
  have kD := hD4.cell
  have hP4 := (hP3.alloc (by first | omega | (simp; omega) | simp) _).trans (hb4.mono (by first | omega | (simp; omega) | simp))
  have hX4 : Below w4.heap.size w4 w4 := Below.refl _ _
  go_wp2_with fail
  refine (Play_yes _ (j + 1 + 2) capB (L ++ [(last + a, 3), (last + a, 3)]) (last + a + d) _ hrX (by omega) HV3.out (by omega) (by omega)).mono ?_; rw [HS3.out]; rintro e w5 ⟨rfl, hb5⟩
  have hC5 := hC4.later hb5
  have hD5 := hD4.later hb5
  have hw5 := hw4.trans (hb5.mono (by first | omega | (simp; omega) | simp))
  have s5 := hb5.size
  have lC5 := hC5.lt
  have lD5 := hD5.lt
  clear kC kD
  have kC := hC5.cell
  have kD := hD5.cell
  have hP5 := hP4.trans (hb5.mono (by first | omega | (simp; omega) | simp))
  have hX5 := hX4.trans (hb5.mono (by first | omega | (simp; omega) | simp))
  go_wp2_with fail
  refine (lives_any _).mono ?_; rintro e w6 ⟨rfl, hb6⟩
  have hC6 := (hC5.alloc _).later hb6
  have hD6 := (hD5.alloc _).later hb6
  have hE6 := (Blk.new w5 38 #[.bool r3, .bool h3, .int .i64 M3, .int .i64 S3]).later hb6
  have hw6 := (hw5.alloc (by first | omega | (simp; omega) | simp) _).trans (hb6.mono (by first | omega | (simp; omega) | simp))
  have s6 := hb6.size
  simp at s6
  have lC6 := hC6.lt
  have lD6 := hD6.lt
  have lE6 := hE6.lt
  clear kC kD
  have kC := hC6.cell
  have kD := hD6.cell
  have kE := hE6.cell
  have hP6 := (hP5.alloc (by first | omega | (simp; omega) | simp) _).trans (hb6.mono (by first | omega | (simp; omega) | simp))
  have hX6 := (hX5.alloc (by first | omega | (simp; omega) | simp) _).trans (hb6.mono (by first | omega | (simp; omega) | simp))
  go_wp2_with fail
  go_ret
  exact ⟨rfl, hw6⟩

set_option maxRecDepth 100000 in
set_option maxHeartbeats 2000000 in
theorem walk_frg (A : Option Addr) (n cap : Nat) (a0 d0 : Int) (l : List (Int × Int)) (w : World) (hr : RowA w A n l) (L : List (Int × Int)) (hL : ordG 0 (l.take 40) = L) (j : Nat) (hN : min n 40 = j + 1) (hj : j ≤ 39) (last b0 : Int) (hlast : L[j]? = some (last, b0)) (l0 : 0 ≤ last) (l1 : last ≤ 100000) (a d : Int) (ha : a0 % 65536 = a) (hd : d0 % 65536 = d) (_a1 : 0 ≤ a) (_a2 : a ≤ 65535) (_d1 : 0 ≤ d) (_d2 : d ≤ 65535)
    (HV : Hid (ordL 0 L = true)) (HV3 : Hid (ordL 0 (L ++ [(last + a, 3), (last + a, 3)]) = true)) (M : Int) (_m0 : 0 ≤ M) (_m1 : M ≤ 1000000000) 
    (HS1 : Hid (shownV (played (last + a) Ch.zero L) (last + a) = .agg #[.bool true, .bool false, .int .i64 M, .int .i64 M])) (HS2 : Hid (shownV (played (last + a + d) Ch.zero L) (last + a + d) = .agg #[.bool true, .bool false, .int .i64 (M + d), .int .i64 (M + d)]))
    (HS3 : Hid (shownV (played (last + a + d) Ch.zero (L ++ [(last + a, 3), (last + a, 3)])) (last + a + d) = .agg #[.bool true, .bool false, .int .i64 (M + d), .int .i64 (M + d)])) :
    Calls Try.prog 5 #[.slice A n cap, .int .i64 a0, .int .i64 d0] w fun e w' => e = .returned (.bool true) ∧ Below w.heap.size w w' := by
  go_enter Try.func5, Try.ntmps5
  have hw0 : Below w.heap.size w w := Below.refl _ _
  go_wp2_with fail
  refine (ordered_any A n cap l w hr).mono ?_; rintro e w1 ⟨B, cB, rfl, hrB, hb1, hnB⟩
  have hw1 := hw0.trans (hb1.mono (by first | omega | (simp; omega) | simp))
  have s1 := hb1.size
  rw [hL, hN] at hrB
  clear hL
  have hP1 : Below w1.heap.size w1 w1 := Below.refl _ _
  have e1 := and_65535 a0
  have e2 := and_65535 d0
  rw [ha] at e1
  rw [hd] at e2
  obtain ⟨g, t, b, rfl, hg, hx, hc1, hc2⟩ := hrB.at_ (Nat.lt_succ_self j)
  rw [hlast] at hx
  cases hx
  clear hc2
  obtain ⟨i0, hi, hz0, hz1, hz2⟩ := info_parts Try.info36
  have Hi := Lib.hid hi
  have Hz0 := Lib.hid hz0
  have Hz1 := Lib.hid hz1
  have Hz2 := Lib.hid hz2
  clear hi hz0 hz1 hz2
  go_wp2_with fail
  refine (Play_yes (some ⟨g, 0, none⟩) (j + 1) cB L (last + a) _ (hrB.later hP1) (by omega) HV.out (by omega) (by omega)).mono ?_; rw [HS1.out]; rintro e w2 ⟨rfl, hb2⟩
  have hw2 := hw1.trans (hb2.mono (by first | omega | (simp; omega) | simp))
  have s2 := hb2.size
  have hP2 := hP1.trans (hb2.mono (by first | omega | (simp; omega) | simp))
  go_wp2_with fail
  refine (Play_yes (some ⟨g, 0, none⟩) (j + 1) cB L (last + a + d) _ (hrB.later (hP2.alloc (by first | omega | (simp; omega) | simp) _)) (by omega) HV.out (by omega) (by omega)).mono ?_; rw [HS2.out]; rintro e w3 ⟨rfl, hb3⟩
  have hC3 := (Blk.new w2 38 #[.bool true, .bool false, .int .i64 M, .int .i64 M]).later hb3
  have hw3 := (hw2.alloc (by first | omega | (simp; omega) | simp) _).trans (hb3.mono (by first | omega | (simp; omega) | simp))
  have s3 := hb3.size
  simp at s3
  have lC3 := hC3.lt
  have kC := hC3.cell
  have hP3 := (hP2.alloc (by first | omega | (simp; omega) | simp) _).trans (hb3.mono (by first | omega | (simp; omega) | simp))
  have hrow : Row2 (w3.alloc (.cells #[.bool true, .bool false, .int .i64 (M + d), .int .i64 (M + d)] 38)) (some ⟨g, 0, none⟩) (j + 1) L := (hrB.later (hP3.alloc (by first | omega | (simp; omega) | simp) _))
  have hmade : ((w3.alloc (.cells #[.bool true, .bool false, .int .i64 (M + d), .int .i64 (M + d)] 38)).alloc (.cells #[] 36)).ownsRow (w3.alloc (.cells #[.bool true, .bool false, .int .i64 (M + d), .int .i64 (M + d)] 38)).heap.size 36 2 (.slice (some ⟨(w3.alloc (.cells #[.bool true, .bool false, .int .i64 (M + d), .int .i64 (M + d)] 38)).heap.size, 0, none⟩) 0 0) 0 [] := World.ownsRow_made (base := (w3.alloc (.cells #[.bool true, .bool false, .int .i64 (M + d), .int .i64 (M + d)] 38)).heap.size) (e := 36) (size := 2) (w3.alloc (.cells #[.bool true, .bool false, .int .i64 (M + d), .int .i64 (M + d)] 38)) #[] 0 (by simp) (by unfold maxLen; omega) (by simp)
  have hmb := fun k hk => (hmade.lt k hk).1
  have hb0 := (Below.refl (w3.alloc (.cells #[.bool true, .bool false, .int .i64 (M + d), .int .i64 (M + d)] 38)).heap.size (w3.alloc (.cells #[.bool true, .bool false, .int .i64 (M + d), .int .i64 (M + d)] 38))).alloc (Nat.le_refl _) (.cells #[] 36)
  rw [World.size_alloc] at hmade
  have hnews := news_row2 (o := .cells #[] 36) hrow (by omega)
  go_wp2_with (at_builtin; refine wpList_append_lies _ rfl (.tmp 49) (.tmp 50) 33 rfl (w3.heap.size + 1) 36 i0 (.agg #[.int .i64 0, .int .i64 0]) 2 16 Try.underlying33 Hi.out Hz0.out Hz1.out Hz2.out rfl (by decide) _ _ _ rfl hmade ⟨g, 0, none⟩ (j + 1) cB (flat L) rfl ?c1 hnews ?c2 ?c3 ?c4 ?c5 ?c6 _ rfl ?_)
  case c1 => rw [flat_length, hrow.1]
  case c2 => exact fun u hu => flat_one u hu
  case c3 => omega
  case c4 => unfold maxLen; omega
  case c5 => omega
  case c6 => simp
  intro gA capA wA hownA hgA _ _
  try simp only [List.nil_append, Nat.zero_add] at hownA
  have hbA := hb0.grown hgA (by simp) (fun k hk => by first | exact hmb k (by simpa using hk) | (simp at hk; simp; omega))
  have zA := hbA.size
  simp at zA
  go_wp2_with (at_builtin; refine wpList_append_lies _ rfl (.tmp 51) (.tmp 56) 33 rfl (w3.heap.size + 1) 36 i0 (.agg #[.int .i64 0, .int .i64 0]) 2 16 Try.underlying33 Hi.out Hz0.out Hz1.out Hz2.out rfl (by decide) _ _ _ rfl (hownA.alloc _) ⟨wA.heap.size, 0, none⟩ 2 2 (flat [(last + a, 3), (last + a, 3)]) rfl rfl ?d1 ?d2 (by decide) ?d4 ?d5 ?d6 _ rfl ?_)
  case d1 => exact cells_four _ _ _ _ _ _
  case d2 => exact fun u hu => flat_one u hu
  case d4 => unfold maxLen; omega
  case d5 => omega
  case d6 => simp; omega
  intro gB capB w4 hownB hgB _ _
  have hb4 := (hbA.alloc (by simp; omega) (.cells #[.int .i64 (last + a), .int .i64 3, .int .i64 (last + a), .int .i64 3] 36)).grown hgB (by simp; omega) (fun k hk => by have := (hownA.lt k hk).1; simp; omega)
  rw [← flat_append] at hownB
  have hrX := own_row2 hownB
  clear hownA hownB hgA hgB hbA hb0 hmb hmade
  have hC4 := (hC3.alloc _).later hb4
  have hD4 := (Blk.new w3 38 #[.bool true, .bool false, .int .i64 (M + d), .int .i64 (M + d)]).later hb4
  have hw4 := (hw3.alloc (by first | omega | (simp; omega) | simp) _).trans (hb4.mono (by first | omega | (simp; omega) | simp))
  have s4 := hb4.size
  simp at s4
  have lC4 := hC4.lt
  have lD4 := hD4.lt
  clear kC
  have kC := hC4.cell
  have kD := hD4.cell
  have hP4 := (hP3.alloc (by first | omega | (simp; omega) | simp) _).trans (hb4.mono (by first | omega | (simp; omega) | simp))
  have hX4 : Below w4.heap.size w4 w4 := Below.refl _ _
  go_wp2_with fail
  refine (Play_yes _ (j + 1 + 2) capB (L ++ [(last + a, 3), (last + a, 3)]) (last + a + d) _ hrX (by omega) HV3.out (by omega) (by omega)).mono ?_; rw [HS3.out]; rintro e w5 ⟨rfl, hb5⟩
  have hC5 := hC4.later hb5
  have hD5 := hD4.later hb5
  have hw5 := hw4.trans (hb5.mono (by first | omega | (simp; omega) | simp))
  have s5 := hb5.size
  have lC5 := hC5.lt
  have lD5 := hD5.lt
  clear kC kD
  have kC := hC5.cell
  have kD := hD5.cell
  have hP5 := hP4.trans (hb5.mono (by first | omega | (simp; omega) | simp))
  have hX5 := hX4.trans (hb5.mono (by first | omega | (simp; omega) | simp))
  go_wp2_with fail
  refine (lives_any _).mono ?_; rintro e w6 ⟨rfl, hb6⟩
  have hC6 := (hC5.alloc _).later hb6
  have hD6 := (hD5.alloc _).later hb6
  have hE6 := (Blk.new w5 38 #[.bool true, .bool false, .int .i64 (M + d), .int .i64 (M + d)]).later hb6
  have hw6 := (hw5.alloc (by first | omega | (simp; omega) | simp) _).trans (hb6.mono (by first | omega | (simp; omega) | simp))
  have s6 := hb6.size
  simp at s6
  have lC6 := hC6.lt
  have lD6 := hD6.lt
  have lE6 := hE6.lt
  clear kC kD
  have kC := hC6.cell
  have kD := hD6.cell
  have kE := hE6.cell
  have hP6 := (hP5.alloc (by first | omega | (simp; omega) | simp) _).trans (hb6.mono (by first | omega | (simp; omega) | simp))
  have hX6 := (hX5.alloc (by first | omega | (simp; omega) | simp) _).trans (hb6.mono (by first | omega | (simp; omega) | simp))
  go_wp2_with fail
  go_ret
  exact ⟨rfl, hw6⟩

set_option maxRecDepth 100000 in
set_option maxHeartbeats 2000000 in
theorem walk_fsh (A : Option Addr) (n cap : Nat) (a0 d0 : Int) (l : List (Int × Int)) (w : World) (hr : RowA w A n l) (L : List (Int × Int)) (hL : ordG 0 (l.take 40) = L) (j : Nat) (hN : min n 40 = j + 1) (hj : j ≤ 39) (last b0 : Int) (hlast : L[j]? = some (last, b0)) (l0 : 0 ≤ last) (l1 : last ≤ 100000) (a d : Int) (ha : a0 % 65536 = a) (hd : d0 % 65536 = d) (_a1 : 0 ≤ a) (_a2 : a ≤ 65535) (_d1 : 0 ≤ d) (_d2 : d ≤ 65535)
    (HV : Hid (ordL 0 L = true)) (HV3 : Hid (ordL 0 (L ++ [(last + a, 3), (last + a, 3)]) = true)) (M : Int) (_m0 : 0 ≤ M) (_m1 : M ≤ 1000000000) (S : Int) (r3 h3 : Bool) (M3 S3 : Int) 
    (HS1 : Hid (shownV (played (last + a) Ch.zero L) (last + a) = .agg #[.bool false, .bool true, .int .i64 M, .int .i64 S])) (HS2 : Hid (shownV (played (last + a + d) Ch.zero L) (last + a + d) = .agg #[.bool false, .bool true, .int .i64 M, .int .i64 S]))
    (HS3 : Hid (shownV (played (last + a + d) Ch.zero (L ++ [(last + a, 3), (last + a, 3)])) (last + a + d) = .agg #[.bool r3, .bool h3, .int .i64 M3, .int .i64 S3])) :
    Calls Try.prog 5 #[.slice A n cap, .int .i64 a0, .int .i64 d0] w fun e w' => e = .returned (.bool true) ∧ Below w.heap.size w w' := by
  go_enter Try.func5, Try.ntmps5
  have hw0 : Below w.heap.size w w := Below.refl _ _
  go_wp2_with fail
  refine (ordered_any A n cap l w hr).mono ?_; rintro e w1 ⟨B, cB, rfl, hrB, hb1, hnB⟩
  have hw1 := hw0.trans (hb1.mono (by first | omega | (simp; omega) | simp))
  have s1 := hb1.size
  rw [hL, hN] at hrB
  clear hL
  have hP1 : Below w1.heap.size w1 w1 := Below.refl _ _
  have e1 := and_65535 a0
  have e2 := and_65535 d0
  rw [ha] at e1
  rw [hd] at e2
  obtain ⟨g, t, b, rfl, hg, hx, hc1, hc2⟩ := hrB.at_ (Nat.lt_succ_self j)
  rw [hlast] at hx
  cases hx
  clear hc2
  obtain ⟨i0, hi, hz0, hz1, hz2⟩ := info_parts Try.info36
  have Hi := Lib.hid hi
  have Hz0 := Lib.hid hz0
  have Hz1 := Lib.hid hz1
  have Hz2 := Lib.hid hz2
  clear hi hz0 hz1 hz2
  go_wp2_with fail
  refine (Play_yes (some ⟨g, 0, none⟩) (j + 1) cB L (last + a) _ (hrB.later hP1) (by omega) HV.out (by omega) (by omega)).mono ?_; rw [HS1.out]; rintro e w2 ⟨rfl, hb2⟩
  have hw2 := hw1.trans (hb2.mono (by first | omega | (simp; omega) | simp))
  have s2 := hb2.size
  have hP2 := hP1.trans (hb2.mono (by first | omega | (simp; omega) | simp))
  go_wp2_with fail
  refine (Play_yes (some ⟨g, 0, none⟩) (j + 1) cB L (last + a + d) _ (hrB.later (hP2.alloc (by first | omega | (simp; omega) | simp) _)) (by omega) HV.out (by omega) (by omega)).mono ?_; rw [HS2.out]; rintro e w3 ⟨rfl, hb3⟩
  have hC3 := (Blk.new w2 38 #[.bool false, .bool true, .int .i64 M, .int .i64 S]).later hb3
  have hw3 := (hw2.alloc (by first | omega | (simp; omega) | simp) _).trans (hb3.mono (by first | omega | (simp; omega) | simp))
  have s3 := hb3.size
  simp at s3
  have lC3 := hC3.lt
  have kC := hC3.cell
  have hP3 := (hP2.alloc (by first | omega | (simp; omega) | simp) _).trans (hb3.mono (by first | omega | (simp; omega) | simp))
  have hrow : Row2 (w3.alloc (.cells #[.bool false, .bool true, .int .i64 M, .int .i64 S] 38)) (some ⟨g, 0, none⟩) (j + 1) L := (hrB.later (hP3.alloc (by first | omega | (simp; omega) | simp) _))
  have hmade : ((w3.alloc (.cells #[.bool false, .bool true, .int .i64 M, .int .i64 S] 38)).alloc (.cells #[] 36)).ownsRow (w3.alloc (.cells #[.bool false, .bool true, .int .i64 M, .int .i64 S] 38)).heap.size 36 2 (.slice (some ⟨(w3.alloc (.cells #[.bool false, .bool true, .int .i64 M, .int .i64 S] 38)).heap.size, 0, none⟩) 0 0) 0 [] := World.ownsRow_made (base := (w3.alloc (.cells #[.bool false, .bool true, .int .i64 M, .int .i64 S] 38)).heap.size) (e := 36) (size := 2) (w3.alloc (.cells #[.bool false, .bool true, .int .i64 M, .int .i64 S] 38)) #[] 0 (by simp) (by unfold maxLen; omega) (by simp)
  have hmb := fun k hk => (hmade.lt k hk).1
  have hb0 := (Below.refl (w3.alloc (.cells #[.bool false, .bool true, .int .i64 M, .int .i64 S] 38)).heap.size (w3.alloc (.cells #[.bool false, .bool true, .int .i64 M, .int .i64 S] 38))).alloc (Nat.le_refl _) (.cells #[] 36)
  rw [World.size_alloc] at hmade
  have hnews := news_row2 (o := .cells #[] 36) hrow (by omega)
  go_wp2_with (at_builtin; refine wpList_append_lies _ rfl (.tmp 49) (.tmp 50) 33 rfl (w3.heap.size + 1) 36 i0 (.agg #[.int .i64 0, .int .i64 0]) 2 16 Try.underlying33 Hi.out Hz0.out Hz1.out Hz2.out rfl (by decide) _ _ _ rfl hmade ⟨g, 0, none⟩ (j + 1) cB (flat L) rfl ?c1 hnews ?c2 ?c3 ?c4 ?c5 ?c6 _ rfl ?_)
  case c1 => rw [flat_length, hrow.1]
  case c2 => exact fun u hu => flat_one u hu
  case c3 => omega
  case c4 => unfold maxLen; omega
  case c5 => omega
  case c6 => simp
  intro gA capA wA hownA hgA _ _
  try simp only [List.nil_append, Nat.zero_add] at hownA
  have hbA := hb0.grown hgA (by simp) (fun k hk => by first | exact hmb k (by simpa using hk) | (simp at hk; simp; omega))
  have zA := hbA.size
  simp at zA
  go_wp2_with (at_builtin; refine wpList_append_lies _ rfl (.tmp 51) (.tmp 56) 33 rfl (w3.heap.size + 1) 36 i0 (.agg #[.int .i64 0, .int .i64 0]) 2 16 Try.underlying33 Hi.out Hz0.out Hz1.out Hz2.out rfl (by decide) _ _ _ rfl (hownA.alloc _) ⟨wA.heap.size, 0, none⟩ 2 2 (flat [(last + a, 3), (last + a, 3)]) rfl rfl ?d1 ?d2 (by decide) ?d4 ?d5 ?d6 _ rfl ?_)
  case d1 => exact cells_four _ _ _ _ _ _
  case d2 => exact fun u hu => flat_one u hu
  case d4 => unfold maxLen; omega
  case d5 => omega
  case d6 => simp; omega
  intro gB capB w4 hownB hgB _ _
  have hb4 := (hbA.alloc (by simp; omega) (.cells #[.int .i64 (last + a), .int .i64 3, .int .i64 (last + a), .int .i64 3] 36)).grown hgB (by simp; omega) (fun k hk => by have := (hownA.lt k hk).1; simp; omega)
  rw [← flat_append] at hownB
  have hrX := own_row2 hownB
  clear hownA hownB hgA hgB hbA hb0 hmb hmade
  have hC4 := (hC3.alloc _).later hb4
  have hD4 := (Blk.new w3 38 #[.bool false, .bool true, .int .i64 M, .int .i64 S]).later hb4
  have hw4 := (hw3.alloc (by first | omega | (simp; omega) | simp) _).trans (hb4.mono (by first | omega | (simp; omega) | simp))
  have s4 := hb4.size
  simp at s4
  have lC4 := hC4.lt
  have lD4 := hD4.lt
  clear kC
  have kC := hC4.cell
  have kD := hD4.cell
  have hP4 := (hP3.alloc (by first | omega | (simp; omega) | simp) _).trans (hb4.mono (by first | omega | (simp; omega) | simp))
  have hX4 : Below w4.heap.size w4 w4 := Below.refl _ _
  go_wp2_with fail
  refine (Play_yes _ (j + 1 + 2) capB (L ++ [(last + a, 3), (last + a, 3)]) (last + a + d) _ hrX (by omega) HV3.out (by omega) (by omega)).mono ?_; rw [HS3.out]; rintro e w5 ⟨rfl, hb5⟩
  have hC5 := hC4.later hb5
  have hD5 := hD4.later hb5
  have hw5 := hw4.trans (hb5.mono (by first | omega | (simp; omega) | simp))
  have s5 := hb5.size
  have lC5 := hC5.lt
  have lD5 := hD5.lt
  clear kC kD
  have kC := hC5.cell
  have kD := hD5.cell
  have hP5 := hP4.trans (hb5.mono (by first | omega | (simp; omega) | simp))
  have hX5 := hX4.trans (hb5.mono (by first | omega | (simp; omega) | simp))
  go_wp2_with fail
  refine (lives_any _).mono ?_; rintro e w6 ⟨rfl, hb6⟩
  have hC6 := (hC5.alloc _).later hb6
  have hD6 := (hD5.alloc _).later hb6
  have hE6 := (Blk.new w5 38 #[.bool r3, .bool h3, .int .i64 M3, .int .i64 S3]).later hb6
  have hw6 := (hw5.alloc (by first | omega | (simp; omega) | simp) _).trans (hb6.mono (by first | omega | (simp; omega) | simp))
  have s6 := hb6.size
  simp at s6
  have lC6 := hC6.lt
  have lD6 := hD6.lt
  have lE6 := hE6.lt
  clear kC kD
  have kC := hC6.cell
  have kD := hD6.cell
  have kE := hE6.cell
  have hP6 := (hP5.alloc (by first | omega | (simp; omega) | simp) _).trans (hb6.mono (by first | omega | (simp; omega) | simp))
  have hX6 := (hX5.alloc (by first | omega | (simp; omega) | simp) _).trans (hb6.mono (by first | omega | (simp; omega) | simp))
  go_wp2_with fail
  go_ret
  exact ⟨rfl, hw6⟩

set_option maxRecDepth 100000 in
set_option maxHeartbeats 2000000 in
theorem walk_fsg (A : Option Addr) (n cap : Nat) (a0 d0 : Int) (l : List (Int × Int)) (w : World) (hr : RowA w A n l) (L : List (Int × Int)) (hL : ordG 0 (l.take 40) = L) (j : Nat) (hN : min n 40 = j + 1) (hj : j ≤ 39) (last b0 : Int) (hlast : L[j]? = some (last, b0)) (l0 : 0 ≤ last) (l1 : last ≤ 100000) (a d : Int) (ha : a0 % 65536 = a) (hd : d0 % 65536 = d) (_a1 : 0 ≤ a) (_a2 : a ≤ 65535) (_d1 : 0 ≤ d) (_d2 : d ≤ 65535)
    (HV : Hid (ordL 0 L = true)) (HV3 : Hid (ordL 0 (L ++ [(last + a, 3), (last + a, 3)]) = true)) (M : Int) (_m0 : 0 ≤ M) (_m1 : M ≤ 1000000000) 
    (HS1 : Hid (shownV (played (last + a) Ch.zero L) (last + a) = .agg #[.bool false, .bool false, .int .i64 M, .int .i64 M])) (HS2 : Hid (shownV (played (last + a + d) Ch.zero L) (last + a + d) = .agg #[.bool false, .bool false, .int .i64 M, .int .i64 M]))
    (HS3 : Hid (shownV (played (last + a + d) Ch.zero (L ++ [(last + a, 3), (last + a, 3)])) (last + a + d) = .agg #[.bool false, .bool false, .int .i64 M, .int .i64 M])) :
    Calls Try.prog 5 #[.slice A n cap, .int .i64 a0, .int .i64 d0] w fun e w' => e = .returned (.bool true) ∧ Below w.heap.size w w' := by
  go_enter Try.func5, Try.ntmps5
  have hw0 : Below w.heap.size w w := Below.refl _ _
  go_wp2_with fail
  refine (ordered_any A n cap l w hr).mono ?_; rintro e w1 ⟨B, cB, rfl, hrB, hb1, hnB⟩
  have hw1 := hw0.trans (hb1.mono (by first | omega | (simp; omega) | simp))
  have s1 := hb1.size
  rw [hL, hN] at hrB
  clear hL
  have hP1 : Below w1.heap.size w1 w1 := Below.refl _ _
  have e1 := and_65535 a0
  have e2 := and_65535 d0
  rw [ha] at e1
  rw [hd] at e2
  obtain ⟨g, t, b, rfl, hg, hx, hc1, hc2⟩ := hrB.at_ (Nat.lt_succ_self j)
  rw [hlast] at hx
  cases hx
  clear hc2
  obtain ⟨i0, hi, hz0, hz1, hz2⟩ := info_parts Try.info36
  have Hi := Lib.hid hi
  have Hz0 := Lib.hid hz0
  have Hz1 := Lib.hid hz1
  have Hz2 := Lib.hid hz2
  clear hi hz0 hz1 hz2
  go_wp2_with fail
  refine (Play_yes (some ⟨g, 0, none⟩) (j + 1) cB L (last + a) _ (hrB.later hP1) (by omega) HV.out (by omega) (by omega)).mono ?_; rw [HS1.out]; rintro e w2 ⟨rfl, hb2⟩
  have hw2 := hw1.trans (hb2.mono (by first | omega | (simp; omega) | simp))
  have s2 := hb2.size
  have hP2 := hP1.trans (hb2.mono (by first | omega | (simp; omega) | simp))
  go_wp2_with fail
  refine (Play_yes (some ⟨g, 0, none⟩) (j + 1) cB L (last + a + d) _ (hrB.later (hP2.alloc (by first | omega | (simp; omega) | simp) _)) (by omega) HV.out (by omega) (by omega)).mono ?_; rw [HS2.out]; rintro e w3 ⟨rfl, hb3⟩
  have hC3 := (Blk.new w2 38 #[.bool false, .bool false, .int .i64 M, .int .i64 M]).later hb3
  have hw3 := (hw2.alloc (by first | omega | (simp; omega) | simp) _).trans (hb3.mono (by first | omega | (simp; omega) | simp))
  have s3 := hb3.size
  simp at s3
  have lC3 := hC3.lt
  have kC := hC3.cell
  have hP3 := (hP2.alloc (by first | omega | (simp; omega) | simp) _).trans (hb3.mono (by first | omega | (simp; omega) | simp))
  have hrow : Row2 (w3.alloc (.cells #[.bool false, .bool false, .int .i64 M, .int .i64 M] 38)) (some ⟨g, 0, none⟩) (j + 1) L := (hrB.later (hP3.alloc (by first | omega | (simp; omega) | simp) _))
  have hmade : ((w3.alloc (.cells #[.bool false, .bool false, .int .i64 M, .int .i64 M] 38)).alloc (.cells #[] 36)).ownsRow (w3.alloc (.cells #[.bool false, .bool false, .int .i64 M, .int .i64 M] 38)).heap.size 36 2 (.slice (some ⟨(w3.alloc (.cells #[.bool false, .bool false, .int .i64 M, .int .i64 M] 38)).heap.size, 0, none⟩) 0 0) 0 [] := World.ownsRow_made (base := (w3.alloc (.cells #[.bool false, .bool false, .int .i64 M, .int .i64 M] 38)).heap.size) (e := 36) (size := 2) (w3.alloc (.cells #[.bool false, .bool false, .int .i64 M, .int .i64 M] 38)) #[] 0 (by simp) (by unfold maxLen; omega) (by simp)
  have hmb := fun k hk => (hmade.lt k hk).1
  have hb0 := (Below.refl (w3.alloc (.cells #[.bool false, .bool false, .int .i64 M, .int .i64 M] 38)).heap.size (w3.alloc (.cells #[.bool false, .bool false, .int .i64 M, .int .i64 M] 38))).alloc (Nat.le_refl _) (.cells #[] 36)
  rw [World.size_alloc] at hmade
  have hnews := news_row2 (o := .cells #[] 36) hrow (by omega)
  go_wp2_with (at_builtin; refine wpList_append_lies _ rfl (.tmp 49) (.tmp 50) 33 rfl (w3.heap.size + 1) 36 i0 (.agg #[.int .i64 0, .int .i64 0]) 2 16 Try.underlying33 Hi.out Hz0.out Hz1.out Hz2.out rfl (by decide) _ _ _ rfl hmade ⟨g, 0, none⟩ (j + 1) cB (flat L) rfl ?c1 hnews ?c2 ?c3 ?c4 ?c5 ?c6 _ rfl ?_)
  case c1 => rw [flat_length, hrow.1]
  case c2 => exact fun u hu => flat_one u hu
  case c3 => omega
  case c4 => unfold maxLen; omega
  case c5 => omega
  case c6 => simp
  intro gA capA wA hownA hgA _ _
  try simp only [List.nil_append, Nat.zero_add] at hownA
  have hbA := hb0.grown hgA (by simp) (fun k hk => by first | exact hmb k (by simpa using hk) | (simp at hk; simp; omega))
  have zA := hbA.size
  simp at zA
  go_wp2_with (at_builtin; refine wpList_append_lies _ rfl (.tmp 51) (.tmp 56) 33 rfl (w3.heap.size + 1) 36 i0 (.agg #[.int .i64 0, .int .i64 0]) 2 16 Try.underlying33 Hi.out Hz0.out Hz1.out Hz2.out rfl (by decide) _ _ _ rfl (hownA.alloc _) ⟨wA.heap.size, 0, none⟩ 2 2 (flat [(last + a, 3), (last + a, 3)]) rfl rfl ?d1 ?d2 (by decide) ?d4 ?d5 ?d6 _ rfl ?_)
  case d1 => exact cells_four _ _ _ _ _ _
  case d2 => exact fun u hu => flat_one u hu
  case d4 => unfold maxLen; omega
  case d5 => omega
  case d6 => simp; omega
  intro gB capB w4 hownB hgB _ _
  have hb4 := (hbA.alloc (by simp; omega) (.cells #[.int .i64 (last + a), .int .i64 3, .int .i64 (last + a), .int .i64 3] 36)).grown hgB (by simp; omega) (fun k hk => by have := (hownA.lt k hk).1; simp; omega)
  rw [← flat_append] at hownB
  have hrX := own_row2 hownB
  clear hownA hownB hgA hgB hbA hb0 hmb hmade
  have hC4 := (hC3.alloc _).later hb4
  have hD4 := (Blk.new w3 38 #[.bool false, .bool false, .int .i64 M, .int .i64 M]).later hb4
  have hw4 := (hw3.alloc (by first | omega | (simp; omega) | simp) _).trans (hb4.mono (by first | omega | (simp; omega) | simp))
  have s4 := hb4.size
  simp at s4
  have lC4 := hC4.lt
  have lD4 := hD4.lt
  clear kC
  have kC := hC4.cell
  have kD := hD4.cell
  have hP4 := (hP3.alloc (by first | omega | (simp; omega) | simp) _).trans (hb4.mono (by first | omega | (simp; omega) | simp))
  have hX4 : Below w4.heap.size w4 w4 := Below.refl _ _
  go_wp2_with fail
  refine (Play_yes _ (j + 1 + 2) capB (L ++ [(last + a, 3), (last + a, 3)]) (last + a + d) _ hrX (by omega) HV3.out (by omega) (by omega)).mono ?_; rw [HS3.out]; rintro e w5 ⟨rfl, hb5⟩
  have hC5 := hC4.later hb5
  have hD5 := hD4.later hb5
  have hw5 := hw4.trans (hb5.mono (by first | omega | (simp; omega) | simp))
  have s5 := hb5.size
  have lC5 := hC5.lt
  have lD5 := hD5.lt
  clear kC kD
  have kC := hC5.cell
  have kD := hD5.cell
  have hP5 := hP4.trans (hb5.mono (by first | omega | (simp; omega) | simp))
  have hX5 := hX4.trans (hb5.mono (by first | omega | (simp; omega) | simp))
  go_wp2_with fail
  refine (lives_any _).mono ?_; rintro e w6 ⟨rfl, hb6⟩
  have hC6 := (hC5.alloc _).later hb6
  have hD6 := (hD5.alloc _).later hb6
  have hE6 := (Blk.new w5 38 #[.bool false, .bool false, .int .i64 M, .int .i64 M]).later hb6
  have hw6 := (hw5.alloc (by first | omega | (simp; omega) | simp) _).trans (hb6.mono (by first | omega | (simp; omega) | simp))
  have s6 := hb6.size
  simp at s6
  have lC6 := hC6.lt
  have lD6 := hD6.lt
  have lE6 := hE6.lt
  clear kC kD
  have kC := hC6.cell
  have kD := hD6.cell
  have kE := hE6.cell
  have hP6 := (hP5.alloc (by first | omega | (simp; omega) | simp) _).trans (hb6.mono (by first | omega | (simp; omega) | simp))
  have hX6 := (hX5.alloc (by first | omega | (simp; omega) | simp) _).trans (hb6.mono (by first | omega | (simp; omega) | simp))
  go_wp2_with fail
  go_ret
  exact ⟨rfl, hw6⟩

set_option maxRecDepth 100000 in
set_option maxHeartbeats 2000000 in
theorem walk_esg (A : Option Addr) (n cap : Nat) (a0 d0 : Int) (l : List (Int × Int)) (w : World) (hr : RowA w A n l) (L : List (Int × Int)) (hL : ordG 0 (l.take 40) = L) (hN : min n 40 = 0) (a d : Int) (ha : a0 % 65536 = a) (hd : d0 % 65536 = d) (_a1 : 0 ≤ a) (_a2 : a ≤ 65535) (_d1 : 0 ≤ d) (_d2 : d ≤ 65535)
    (HV : Hid (ordL 0 L = true)) (HV3 : Hid (ordL 0 [(a, 3), (a, 3)] = true)) (M : Int) (_m0 : 0 ≤ M) (_m1 : M ≤ 1000000000) 
    (HS1 : Hid (shownV (played (a) Ch.zero L) (a) = .agg #[.bool false, .bool false, .int .i64 M, .int .i64 M])) (HS2 : Hid (shownV (played (a + d) Ch.zero L) (a + d) = .agg #[.bool false, .bool false, .int .i64 M, .int .i64 M]))
    (HS3 : Hid (shownV (played (a + d) Ch.zero [(a, 3), (a, 3)]) (a + d) = .agg #[.bool false, .bool false, .int .i64 M, .int .i64 M])) :
    Calls Try.prog 5 #[.slice A n cap, .int .i64 a0, .int .i64 d0] w fun e w' => e = .returned (.bool true) ∧ Below w.heap.size w w' := by
  go_enter Try.func5, Try.ntmps5
  have hw0 : Below w.heap.size w w := Below.refl _ _
  go_wp2_with fail
  refine (ordered_any A n cap l w hr).mono ?_; rintro e w1 ⟨B, cB, rfl, hrB, hb1, hnB⟩
  have hw1 := hw0.trans (hb1.mono (by first | omega | (simp; omega) | simp))
  have s1 := hb1.size
  rw [hL, hN] at hrB
  clear hL
  have hP1 : Below w1.heap.size w1 w1 := Below.refl _ _
  have e1 := and_65535 a0
  have e2 := and_65535 d0
  rw [ha] at e1
  rw [hd] at e2
  obtain ⟨i0, hi, hz0, hz1, hz2⟩ := info_parts Try.info36
  have Hi := Lib.hid hi
  have Hz0 := Lib.hid hz0
  have Hz1 := Lib.hid hz1
  have Hz2 := Lib.hid hz2
  clear hi hz0 hz1 hz2
  go_wp2_with fail
  refine (Play_yes B 0 cB L (a) _ (hrB.later hP1) (by omega) HV.out (by omega) (by omega)).mono ?_; rw [HS1.out]; rintro e w2 ⟨rfl, hb2⟩
  have hw2 := hw1.trans (hb2.mono (by first | omega | (simp; omega) | simp))
  have s2 := hb2.size
  have hP2 := hP1.trans (hb2.mono (by first | omega | (simp; omega) | simp))
  go_wp2_with fail
  refine (Play_yes B 0 cB L (a + d) _ (hrB.later (hP2.alloc (by first | omega | (simp; omega) | simp) _)) (by omega) HV.out (by omega) (by omega)).mono ?_; rw [HS2.out]; rintro e w3 ⟨rfl, hb3⟩
  have hC3 := (Blk.new w2 38 #[.bool false, .bool false, .int .i64 M, .int .i64 M]).later hb3
  have hw3 := (hw2.alloc (by first | omega | (simp; omega) | simp) _).trans (hb3.mono (by first | omega | (simp; omega) | simp))
  have s3 := hb3.size
  simp at s3
  have lC3 := hC3.lt
  have kC := hC3.cell
  have hP3 := (hP2.alloc (by first | omega | (simp; omega) | simp) _).trans (hb3.mono (by first | omega | (simp; omega) | simp))
  have hrow : Row2 (w3.alloc (.cells #[.bool false, .bool false, .int .i64 M, .int .i64 M] 38)) B 0 L := (hrB.later (hP3.alloc (by first | omega | (simp; omega) | simp) _))
  have hmade : ((w3.alloc (.cells #[.bool false, .bool false, .int .i64 M, .int .i64 M] 38)).alloc (.cells #[] 36)).ownsRow (w3.alloc (.cells #[.bool false, .bool false, .int .i64 M, .int .i64 M] 38)).heap.size 36 2 (.slice (some ⟨(w3.alloc (.cells #[.bool false, .bool false, .int .i64 M, .int .i64 M] 38)).heap.size, 0, none⟩) 0 0) 0 [] := World.ownsRow_made (base := (w3.alloc (.cells #[.bool false, .bool false, .int .i64 M, .int .i64 M] 38)).heap.size) (e := 36) (size := 2) (w3.alloc (.cells #[.bool false, .bool false, .int .i64 M, .int .i64 M] 38)) #[] 0 (by simp) (by unfold maxLen; omega) (by simp)
  have hmb := fun k hk => (hmade.lt k hk).1
  have hb0 := (Below.refl (w3.alloc (.cells #[.bool false, .bool false, .int .i64 M, .int .i64 M] 38)).heap.size (w3.alloc (.cells #[.bool false, .bool false, .int .i64 M, .int .i64 M] 38))).alloc (Nat.le_refl _) (.cells #[] 36)
  rw [World.size_alloc] at hmade
  go_wp2_with (at_builtin; refine wpList_append_fits_any _ rfl (.tmp 49) (.tmp 50) 33 rfl (w3.heap.size + 1) 36 i0 2 Try.underlying33 Hi.out Hz1.out (w3.heap.size + 1) 0 0 [] rfl hmade B 0 cB [] rfl rfl (fun h => ⟨rfl, hnB h⟩) (by simp) (by simp) (by omega) ?_)
  intro wA hownA hgA
  try simp only [List.nil_append, Nat.zero_add] at hownA
  have hbA := hb0.grown hgA (by simp) (fun k hk => by first | exact hmb k (by simpa using hk) | (simp at hk; simp; omega))
  have zA := hbA.size
  simp at zA
  go_wp2_with (at_builtin; refine wpList_append_lies _ rfl (.tmp 51) (.tmp 56) 33 rfl (w3.heap.size + 1) 36 i0 (.agg #[.int .i64 0, .int .i64 0]) 2 16 Try.underlying33 Hi.out Hz0.out Hz1.out Hz2.out rfl (by decide) _ _ _ rfl (hownA.alloc _) ⟨wA.heap.size, 0, none⟩ 2 2 (flat [(a, 3), (a, 3)]) rfl rfl ?d1 ?d2 (by decide) ?d4 ?d5 ?d6 _ rfl ?_)
  case d1 => exact cells_four _ _ _ _ _ _
  case d2 => exact fun u hu => flat_one u hu
  case d4 => unfold maxLen; omega
  case d5 => omega
  case d6 => simp; omega
  intro gB capB w4 hownB hgB _ _
  have hb4 := (hbA.alloc (by simp; omega) (.cells #[.int .i64 (a), .int .i64 3, .int .i64 (a), .int .i64 3] 36)).grown hgB (by simp; omega) (fun k hk => by have := (hownA.lt k hk).1; simp; omega)
  try rw [List.nil_append] at hownB
  have hrX := own_row2 hownB
  clear hownA hownB hgA hgB hbA hb0 hmb hmade
  have hC4 := (hC3.alloc _).later hb4
  have hD4 := (Blk.new w3 38 #[.bool false, .bool false, .int .i64 M, .int .i64 M]).later hb4
  have hw4 := (hw3.alloc (by first | omega | (simp; omega) | simp) _).trans (hb4.mono (by first | omega | (simp; omega) | simp))
  have s4 := hb4.size
  simp at s4
  have lC4 := hC4.lt
  have lD4 := hD4.lt
  clear kC
  have kC := hC4.cell
  have kD := hD4.cell
  have hP4 := (hP3.alloc (by first | omega | (simp; omega) | simp) _).trans (hb4.mono (by first | omega | (simp; omega) | simp))
  have hX4 : Below w4.heap.size w4 w4 := Below.refl _ _
  go_wp2_with fail
  refine (Play_yes _ 2 capB [(a, 3), (a, 3)] (a + d) _ hrX (by omega) HV3.out (by omega) (by omega)).mono ?_; rw [HS3.out]; rintro e w5 ⟨rfl, hb5⟩
  have hC5 := hC4.later hb5
  have hD5 := hD4.later hb5
  have hw5 := hw4.trans (hb5.mono (by first | omega | (simp; omega) | simp))
  have s5 := hb5.size
  have lC5 := hC5.lt
  have lD5 := hD5.lt
  clear kC kD
  have kC := hC5.cell
  have kD := hD5.cell
  have hP5 := hP4.trans (hb5.mono (by first | omega | (simp; omega) | simp))
  have hX5 := hX4.trans (hb5.mono (by first | omega | (simp; omega) | simp))
  go_wp2_with fail
  refine (lives_any _).mono ?_; rintro e w6 ⟨rfl, hb6⟩
  have hC6 := (hC5.alloc _).later hb6
  have hD6 := (hD5.alloc _).later hb6
  have hE6 := (Blk.new w5 38 #[.bool false, .bool false, .int .i64 M, .int .i64 M]).later hb6
  have hw6 := (hw5.alloc (by first | omega | (simp; omega) | simp) _).trans (hb6.mono (by first | omega | (simp; omega) | simp))
  have s6 := hb6.size
  simp at s6
  have lC6 := hC6.lt
  have lD6 := hD6.lt
  have lE6 := hE6.lt
  clear kC kD
  have kC := hC6.cell
  have kD := hD6.cell
  have kE := hE6.cell
  have hP6 := (hP5.alloc (by first | omega | (simp; omega) | simp) _).trans (hb6.mono (by first | omega | (simp; omega) | simp))
  have hX6 := (hX5.alloc (by first | omega | (simp; omega) | simp) _).trans (hb6.mono (by first | omega | (simp; omega) | simp))
  go_wp2_with fail
  go_ret
  exact ⟨rfl, hw6⟩

theorem walk (A : Option Addr) (n cap : Nat) (a0 d0 : Int) (l : List (Int × Int)) (w : World) (hr : RowA w A n l) (_ : n ≤ cap) (_ : cap ≤ maxLen) (_ : A = none → cap = 0) :
    Calls Try.prog 5 #[.slice A n cap, .int .i64 a0, .int .i64 d0] w fun e w' => e = .returned (.bool true) ∧ Below w.heap.size w w' := by
  have hl : ((l.take 40).length : Int) ≤ 40 := by rw [List.length_take]; omega
  have hln : (l.take 40).length = min n 40 := by rw [List.length_take, hr.1]; omega
  have HV : ordL 0 (ordG 0 (l.take 40)) = true := ordG_ord0 (by omega) (by omega) (by omega)
  have hmost := fun x hx => ordG_most (l := l.take 40) (s := 0) x hx
  have hlen := ordG_length (l.take 40) 0
  rw [hln] at hlen
  rcases Nat.eq_zero_or_pos (min n 40) with hN | hN
  · have hnil : ordG 0 (l.take 40) = [] := List.eq_nil_of_length_eq_zero (by omega)
    refine walk_esg A n cap a0 d0 l w hr [] hnil hN _ _ rfl rfl (by omega) (by omega) (by omega) (by omega) (Lib.hid rfl) (Lib.hid ?_) 0 (by omega) (by omega) (Lib.hid rfl) (Lib.hid rfl) (Lib.hid ?_)
    · exact ordL_more (l := []) (u := 0) (by omega) (by omega) (fun _ h => by cases h) rfl
    · rw [played_all (l := [(a0 % 65536, 3), (a0 % 65536, 3)]) (fun x hx => by simp at hx; rw [hx]; simp only; omega)]
      exact split_twice (c := Ch.zero) (at_ := a0 % 65536) rfl
  · obtain ⟨j, hj⟩ : ∃ j, min n 40 = j + 1 := ⟨min n 40 - 1, by omega⟩
    generalize hL : ordG 0 (l.take 40) = L at *
    obtain ⟨x, hx⟩ : ∃ x, L[j]? = some x := ⟨_, List.getElem?_eq_getElem (by omega)⟩
    obtain ⟨last, b0⟩ := x
    obtain ⟨hle, l0, _⟩ := ordL_last HV (by rw [show L.length - 1 = j by omega]; exact hx)
    have l1 : last ≤ 100000 := by
      have := hmost (last, b0) (List.mem_of_getElem? hx)
      simp only at this
      omega
    have H1 : ∀ t, last ≤ t → played t Ch.zero L = runL Ch.zero L := fun t ht => played_all fun x hx => Int.le_trans (hle x hx) ht
    have hf : (runL Ch.zero L).fine (last + a0 % 65536) := runL_fine HV Ch.fine_zero (by omega) fun x hx => by have := hle x hx; omega
    have hn := Ch.fine_now hf (Int.le_refl _)
    have HV3 := ordL_more (at_ := last + a0 % 65536) (by omega) (by omega) (fun x hx => by have := hle x hx; omega) HV
    have H3 : played (last + a0 % 65536 + d0 % 65536) Ch.zero (L ++ [(last + a0 % 65536, 3), (last + a0 % 65536, 3)]) = ((runL Ch.zero L).push (last + a0 % 65536) 3).push (last + a0 % 65536) 3 := by
      rw [played_all (fun x hx => ?_), runL_more]
      rcases List.mem_append.1 hx with hx | hx
      · have := hle x hx
        omega
      · simp at hx
        rw [hx]
        simp only
        omega
    have hs : ∀ (c : Ch) t, shownV c t = .agg #[.bool c.r, .bool c.h, .int .i64 (c.now t), .int .i64 (if c.h = true then c.p else c.now t)] := fun _ _ => rfl
    obtain ⟨r3, h3, M3, S3, hs3⟩ := shown_form (((runL Ch.zero L).push (last + a0 % 65536) 3).push (last + a0 % 65536) 3) (last + a0 % 65536 + d0 % 65536)
    have hm := now_more (runL Ch.zero L) (last + a0 % 65536) (d0 % 65536)
    have ht : (runL Ch.zero L).h = false → shownV (((runL Ch.zero L).push (last + a0 % 65536) 3).push (last + a0 % 65536) 3) (last + a0 % 65536 + d0 % 65536) = shownV (runL Ch.zero L) (last + a0 % 65536 + d0 % 65536) := fun h => split_twice h
    cases hr1 : (runL Ch.zero L).r with
    | true =>
      rw [hr1, if_pos rfl] at hm
      cases hh1 : (runL Ch.zero L).h with
      | true =>
        refine walk_frh A n cap a0 d0 l w hr L hL j hj (by omega) last b0 hx l0 l1 _ _ rfl rfl (by omega) (by omega) (by omega) (by omega) (Lib.hid HV) (Lib.hid HV3) _ hn.1 (by omega) (runL Ch.zero L).p r3 h3 M3 S3 (Lib.hid ?_) (Lib.hid ?_) (Lib.hid ?_)
        · rw [H1 _ (by omega), hs, hr1, hh1, if_pos rfl]
        · rw [H1 _ (by omega), hs, hr1, hh1, if_pos rfl, hm]
        · rw [H3, hs3]
      | false =>
        have hne : ¬ (false = true) := by decide
        refine walk_frg A n cap a0 d0 l w hr L hL j hj (by omega) last b0 hx l0 l1 _ _ rfl rfl (by omega) (by omega) (by omega) (by omega) (Lib.hid HV) (Lib.hid HV3) _ hn.1 (by omega) (Lib.hid ?_) (Lib.hid ?_) (Lib.hid ?_)
        · rw [H1 _ (by omega), hs, hr1, hh1, if_neg hne]
        · rw [H1 _ (by omega), hs, hr1, hh1, if_neg hne, hm]
        · rw [H3, ht hh1, hs, hr1, hh1, if_neg hne, hm]
    | false =>
      have hne : ¬ (false = true) := by decide
      rw [hr1, if_neg hne, Int.add_zero] at hm
      cases hh1 : (runL Ch.zero L).h with
      | true =>
        refine walk_fsh A n cap a0 d0 l w hr L hL j hj (by omega) last b0 hx l0 l1 _ _ rfl rfl (by omega) (by omega) (by omega) (by omega) (Lib.hid HV) (Lib.hid HV3) _ hn.1 (by omega) (runL Ch.zero L).p r3 h3 M3 S3 (Lib.hid ?_) (Lib.hid ?_) (Lib.hid ?_)
        · rw [H1 _ (by omega), hs, hr1, hh1, if_pos rfl]
        · rw [H1 _ (by omega), hs, hr1, hh1, if_pos rfl, hm]
        · rw [H3, hs3]
      | false =>
        refine walk_fsg A n cap a0 d0 l w hr L hL j hj (by omega) last b0 hx l0 l1 _ _ rfl rfl (by omega) (by omega) (by omega) (by omega) (Lib.hid HV) (Lib.hid HV3) _ hn.1 (by omega) (Lib.hid ?_) (Lib.hid ?_) (Lib.hid ?_)
        · rw [H1 _ (by omega), hs, hr1, hh1, if_neg hne]
        · rw [H1 _ (by omega), hs, hr1, hh1, if_neg hne, hm]
        · rw [H3, ht hh1, hs, hr1, hh1, if_neg hne, hm]

set_option maxRecDepth 100000 in
theorem lifted (os : Os) (started : os.Started) (H : Type) (enc : TypeId × Value → H) :
    ReturnsInHanded {} Try.checked os 5 .any (Rows.dialRunsSpec.pre6 enc Try.prog Try.f5 Rows.dialRunsRow.domain false) (Rows.dialRunsSpec.post enc Try.prog Try.f5 false true false false) := by
  refine returnsInHanded_of_change (C := Try.checked) Try.own started (by kernel_rfl) Try.func5
    (ChangeSpec.witness6 (enc := enc) (C := Try.checked) false ⟨#[], #[.slice none 0 0, .int .i64 0, .int .i64 0], []⟩ 8 (by kernel_rfl) (by kernel_rfl) (by kernel_rfl) (by kernel_rfl)) ?_
  intro W base args ds gs before hval0 hW hcnd _
  have hval : ∀ (j : Nat) t v, Try.f5.params[j]? = some t → args[j]? = some v → Value.okWide Try.prog W .any base t v := hval0
  have hW' := hW
  obtain ⟨p, q, hA0, hV, rfl, hfz, hnd⟩ := hW
  have hA : DataW.TrodAll enc Try.prog W 0 (fun _ => true) true Try.f5.params.toList args.toList ds p := hA0
  rw [Try.params5] at hA hval
  obtain ⟨v0, vs0, d0, ds0, p0, q0, hargs, rfl, rfl, h0, r0⟩ := trodAll_cons hA
  obtain ⟨v1, vs1, d1, ds1, p1, q1, rfl, rfl, rfl, h1, r1⟩ := trodAll_cons r0
  obtain ⟨v2, vs2, d2, ds2, p2, q2, rfl, rfl, rfl, h2, r2⟩ := trodAll_cons r1
  obtain ⟨rfl, rfl, rfl⟩ := trodAll_nil r2
  obtain rfl : args = #[v0, v1, v2] := by cases args; simp_all
  obtain ⟨rfl, rfl⟩ := trodVars_none hV
  obtain ⟨A0, n0, c0, l0, rfl, x0, y0, z0, u0⟩ := open_P (hval 0 33 v0 rfl rfl) h0
  obtain ⟨a1, rfl, rfl, rfl, w1⟩ := open_int Try.underlying3 (hval 1 3 v1 rfl rfl) h1
  obtain ⟨a2, rfl, rfl, rfl, w2⟩ := open_int Try.underlying3 (hval 2 3 v2 rfl rfl) h2
  refine (walk A0 n0 c0 a1 a2 l0 W x0 y0 z0 u0).mono fun e W' ⟨he, hb⟩ => ?_
  exact ⟨_, he, law_post rfl (by kernel_rfl) (by kernel_rfl) hW' rfl rfl rfl hb⟩

set_option maxRecDepth 100000 in
theorem facts : joinedFacts Try.prog 5 Try.f5 Rows.dialRunsSpec Rows.dialRunsRow = true := by
  unfold joinedFacts
  repeat' (with_reducible refine and_t ?_ ?_)
  all_goals first
    | with_reducible exact Try.enters
    | (rw [Try.finals]; as_aux_lemma => kernel_rfl)
    | (rw [Try.made]; as_aux_lemma => kernel_rfl)
    | (as_aux_lemma => kernel_rfl)

theorem proved : Rows.DialRunsSaid :=
  OpenClaim.holds_of_wide 5 Try.f5 rfl rfl rfl rfl rfl rfl rfl ⟨rfl, rfl, rfl, rfl, rfl⟩ rfl rfl rfl rfl rfl (by as_aux_lemma => kernel_rfl) Try.func5 facts
    (of_decide_eq_true (by as_aux_lemma => kernel_rfl)) (by unfold Func.isWrapper; rw [if_neg (of_decide_eq_false (by kernel_rfl))]; exact ⟨rfl, rfl⟩)
    (fun os started H enc _ => lifted os started H enc)
#print axioms proved
end Go.Proofs.Ytjlnkghjiaglmaa.dialRuns
