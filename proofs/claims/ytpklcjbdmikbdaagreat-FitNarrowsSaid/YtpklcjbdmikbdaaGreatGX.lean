/-
  The seat's texts StkX PairW Same FLiv in one: the contracts of the functions that the law reaches, and the plain laws that they rest on.
  Conditions: as each theorem states them.
-/
import Derived.Test.YtpklcjbdmikbdaaGreatGM
import Derived.Test.YtpklcjbdmikbdaaGreatGW
import Derived.Test.YtpklcjbdmikbdaaGreatGR
import Derived.Outline
namespace Go.Proofs.YtpklcjbdmikbdaaGreat
set_option maxRecDepth 100000
open Go.RowKit

set_option maxHeartbeats 4000000 in
theorem count_no (A : Option Addr) (n c : Nat) (l : List Prt) (lo hi : Int) (w : World) (rA : PartsH w A n l) (hn : n ≤ 1000) (hr : (rightB l && spanB lo hi) = false) : Calls Tryz.prog 6 #[.slice A n c, .agg #[.int .i64 lo, .int .i64 hi]] w fun e w' => e = .returned (.tuple #[.int .i64 0, .int .i64 0, .int .i64 1]) ∧ Below w.heap.size w w' := by
  have hb1 : Below w.heap.size w (w.alloc (.cells #[.int .i64 lo, .int .i64 hi] 24)) := (Below.refl _ _).alloc (Nat.le_refl _) _
  have k1 := Blk.new w 24 #[.int .i64 lo, .int .i64 hi]
  have M := right_any A n c l _ (rA.later hb1) hn
  cases hrb : rightB l with
  | false =>
    rw [hrb] at M
    have HM := Lib.hid M
    clear M hr hrb
    go_enter Tryz.func6, Tryz.ntmps6
    go_wp2_with fail
    refine HM.out.mono ?_
    rintro e w2 ⟨rfl, hb2⟩
    have hb3 := hb1.trans (hb2.mono hb1.size)
    clear HM hb1 hb2 k1
    go_wp2_with fail
    go_ret3
    exact ⟨rfl, hb3⟩
  | true =>
    rw [hrb] at M hr
    have hsp : spanB lo hi = false := by simpa using hr
    have HM := Lib.hid M
    have HV : Hid (∀ w, Calls Tryz.prog 22 #[.agg #[.int .i64 lo, .int .i64 hi]] w fun e w' => e = .returned (.bool false) ∧ Below w.heap.size w w') := fun w => by have := valid_any lo hi w; rw [hsp] at this; exact this
    clear M hr hrb hsp
    go_enter Tryz.func6, Tryz.ntmps6
    go_wp2_with fail
    refine HM.out.mono ?_
    rintro e w2 ⟨rfl, hb2⟩
    have k2 := k1.later hb2
    have c2 := k2.cell
    have l2 := k2.lt
    have hb3 := hb1.trans (hb2.mono hb1.size)
    clear HM hb1 hb2 k1
    go_wp2_with fail
    refine (HV.out _).mono ?_
    rintro e w3 ⟨rfl, hb4⟩
    have hb5 := hb3.trans (hb4.mono hb3.size)
    clear c2 l2 hb3 hb4
    go_wp2_with fail
    go_ret3
    exact ⟨rfl, hb5⟩
set_option maxHeartbeats 4000000 in
theorem count_yes (A : Option Addr) (n c : Nat) (l : List Prt) (lo hi : Int) (w : World) (rA : PartsH w A n l) (hr : rightB l = true) (hsp : spanB lo hi = true) : Calls Tryz.prog 6 #[.slice A n c, .agg #[.int .i64 lo, .int .i64 hi]] w fun e w' => e = .returned (.tuple #[.int .i64 ((goodN lo hi (gapsL l) : Nat) : Int), .int .i64 (((gapsL l).length : Nat) : Int), .int .i64 0]) ∧ Below w.heap.size w w' := by
  obtain ⟨hok, h1, h8⟩ := rightB_iff.1 hr
  have hn : n ≤ 8 := by rw [← rA.1]; exact h8
  have hb1 : Below w.heap.size w (w.alloc (.cells #[.int .i64 lo, .int .i64 hi] 24)) := (Below.refl _ _).alloc (Nat.le_refl _) _
  have k1 := Blk.new w 24 #[.int .i64 lo, .int .i64 hi]
  have M := right_any A n c l _ (rA.later hb1) (by omega)
  rw [hr] at M
  have HM := Lib.hid M
  have HV : Hid (∀ w, Calls Tryz.prog 22 #[.agg #[.int .i64 lo, .int .i64 hi]] w fun e w' => e = .returned (.bool true) ∧ Below w.heap.size w w') := fun w => by have := valid_any lo hi w; rw [hsp] at this; exact this
  have HOK := Lib.hid hok
  clear M hr hok hsp
  go_enter Tryz.func6, Tryz.ntmps6
  go_wp2_with fail
  refine HM.out.mono ?_
  rintro e w2 ⟨rfl, hb2⟩
  have k2 := k1.later hb2
  have c2 := k2.cell
  have l2 := k2.lt
  have hb3 := hb1.trans (hb2.mono hb1.size)
  clear HM hb1 hb2 k1
  go_wp2_with fail
  refine (HV.out _).mono ?_
  rintro e w3 ⟨rfl, hb4⟩
  have k3 := k2.later hb4
  have hb5 := hb3.trans (hb4.mono hb3.size)
  clear c2 l2 hb3 hb4
  have c3 := k3.cell
  have l3 := k3.lt
  have HC := Lib.hid (counted_any A n c l lo hi w3 (rA.later hb5) HOK.out hn)
  go_wp2_with fail
  refine HC.out.mono ?_
  rintro e w4 ⟨rfl, hb6⟩
  have hb7 := hb5.trans (hb6.mono hb5.size)
  clear HC hb5 hb6 c3 l3
  go_wp2_with fail
  go_ret3
  exact ⟨rfl, hb7⟩
set_option maxHeartbeats 4000000 in
theorem yield_no (A : Option Addr) (n c : Nat) (l : List Prt) (lo hi : Int) (w : World) (rA : PartsH w A n l) (hn : n ≤ 1000) (hr : (rightB l && spanB lo hi) = false) : Calls Tryz.prog 7 #[.slice A n c, .agg #[.int .i64 lo, .int .i64 hi]] w fun e w' => e = .returned (.tuple #[.agg #[.int .i64 0, .int .i64 0], .int .i64 1]) ∧ Below w.heap.size w w' := by
  have hb1 : Below w.heap.size w (w.alloc (.cells #[.int .i64 lo, .int .i64 hi] 24)) := (Below.refl _ _).alloc (Nat.le_refl _) _
  have k1 := Blk.new w 24 #[.int .i64 lo, .int .i64 hi]
  have hsz : (w.alloc (.cells #[.int .i64 lo, .int .i64 hi] 24)).heap.size = w.heap.size + 1 := by simp
  have kR := Blk.new (w.alloc (.cells #[.int .i64 lo, .int .i64 hi] 24)) 30 #[.int .i64 0, .int .i64 0]
  rw [hsz] at kR
  have hb2 : Below (w.alloc (.cells #[.int .i64 lo, .int .i64 hi] 24)).heap.size (w.alloc (.cells #[.int .i64 lo, .int .i64 hi] 24)) ((w.alloc (.cells #[.int .i64 lo, .int .i64 hi] 24)).alloc (.cells #[.int .i64 0, .int .i64 0] 30)) := (Below.refl _ _).alloc (Nat.le_refl _) _
  have k2 := k1.later hb2
  have hb3 := hb1.trans (hb2.mono (by rw [hsz]; exact Nat.le_succ _))
  have HM := Lib.hid (count_no A n c l lo hi _ (rA.later hb3) hn hr)
  clear hr hsz hb1 hb2 k1
  go_enter Tryz.func7, Tryz.ntmps7
  go_wp2_with fail
  refine HM.out.mono ?_
  rintro e w2 ⟨rfl, hb4⟩
  have k3 := kR.later hb4
  have c3 := k3.cell
  have f3 := k3.frozen
  have l3 := k3.lt
  have hb5 := hb3.trans (hb4.mono hb3.size)
  clear HM hb3 hb4 k2 kR
  go_wp2_with fail
  refine bodyPost_cell (w.heap.size + 1) 30 #[.int .i64 0, .int .i64 0] (.tuple #[.agg #[.int .i64 0, .int .i64 0], .int .i64 1]) ((k3.set_ 0 (.int .i64 0)).set_ 1 (.int .i64 0)) ?_ ⟨rfl, (hb5.setCell (Nat.le_succ _) _).setCell (Nat.le_succ _) _⟩
  intro W' hW'
  simp [results, Tryz.results7, go_sem, hW']
/-- A fraction in lowest terms. -/
def fracV (n d : Nat) : Value := .agg #[.int .i64 ((n / n.gcd d : Nat) : Int), .int .i64 ((d / n.gcd d : Nat) : Int)]
set_option maxHeartbeats 4000000 in
theorem yield_yes (A : Option Addr) (n c : Nat) (l : List Prt) (lo hi : Int) (w : World) (rA : PartsH w A n l) (hr : rightB l = true) (hsp : spanB lo hi = true) : Calls Tryz.prog 7 #[.slice A n c, .agg #[.int .i64 lo, .int .i64 hi]] w fun e w' => e = .returned (.tuple #[fracV (goodN lo hi (gapsL l)) (gapsL l).length, .int .i64 0]) ∧ Below w.heap.size w w' := by
  obtain ⟨hok, h1, h8⟩ := rightB_iff.1 hr
  have hb1 : Below w.heap.size w (w.alloc (.cells #[.int .i64 lo, .int .i64 hi] 24)) := (Below.refl _ _).alloc (Nat.le_refl _) _
  have k1 := Blk.new w 24 #[.int .i64 lo, .int .i64 hi]
  have hsz : (w.alloc (.cells #[.int .i64 lo, .int .i64 hi] 24)).heap.size = w.heap.size + 1 := by simp
  have kR := Blk.new (w.alloc (.cells #[.int .i64 lo, .int .i64 hi] 24)) 30 #[.int .i64 0, .int .i64 0]
  rw [hsz] at kR
  have hb2 : Below (w.alloc (.cells #[.int .i64 lo, .int .i64 hi] 24)).heap.size (w.alloc (.cells #[.int .i64 lo, .int .i64 hi] 24)) ((w.alloc (.cells #[.int .i64 lo, .int .i64 hi] 24)).alloc (.cells #[.int .i64 0, .int .i64 0] 30)) := (Below.refl _ _).alloc (Nat.le_refl _) _
  have k2 := k1.later hb2
  have hb3 := hb1.trans (hb2.mono (by rw [hsz]; exact Nat.le_succ _))
  have HM := Lib.hid (count_yes A n c l lo hi _ (rA.later hb3) hr hsp)
  have hcb := choices_bound hok h8
  have hgl := goodN_le lo hi (gapsL l)
  have hpos := (gapsL_facts l hok).2.2.2.2.2.2
  obtain ⟨G, hG⟩ : ∃ G, G = goodN lo hi (gapsL l) := ⟨_, rfl⟩
  obtain ⟨T, hT⟩ : ∃ T, T = (gapsL l).length := ⟨_, rfl⟩
  rw [← hG, ← hT] at HM hgl
  rw [← hT] at hcb hpos
  have HF := Lib.hid fun w => make_any G T w hpos (by omega) (by omega)
  obtain ⟨qn, hqn⟩ : ∃ q, q = G / G.gcd T := ⟨_, rfl⟩
  obtain ⟨qd, hqd⟩ : ∃ q, q = T / G.gcd T := ⟨_, rfl⟩
  have HR : Hid (fracV (goodN lo hi (gapsL l)) (gapsL l).length = .agg #[.int .i64 (qn : Int), .int .i64 (qd : Int)]) := by show _ = _; rw [← hG, ← hT]; unfold fracV; rw [hqn, hqd]
  have HQ1 := Lib.hid hqn
  have HQ2 := Lib.hid hqd
  clear hr hsp hsz hb1 hb2 k1 hok hG hT hqn hqd hcb hgl hpos
  go_enter Tryz.func7, Tryz.ntmps7
  go_wp2_with fail
  refine HM.out.mono ?_
  rintro e w2 ⟨rfl, hb4⟩
  have k3 := kR.later hb4
  have hb5 := hb3.trans (hb4.mono hb3.size)
  clear HM hb3 hb4 k2 kR
  go_wp2_with fail
  refine (HF.out _).mono ?_
  rintro e w3 ⟨rfl, hb6⟩
  rw [← HQ1.out, ← HQ2.out]
  have k4 := k3.later hb6
  have c4 := k4.cell
  have f4 := k4.frozen
  have l4 := k4.lt
  have hb7 := hb5.trans (hb6.mono hb5.size)
  clear hb5 hb6 k3
  go_wp2_with fail
  refine bodyPost_cell (w.heap.size + 1) 30 #[.int .i64 (qn : Int), .int .i64 (qd : Int)] (.tuple #[.agg #[.int .i64 (qn : Int), .int .i64 (qd : Int)], .int .i64 0]) ((k4.set_ 0 (.int .i64 (qn : Int))).set_ 1 (.int .i64 (qd : Int))) ?_ ⟨by rw [HR.out], (hb7.setCell (Nat.le_succ _) _).setCell (Nat.le_succ _) _⟩
  intro W' hW'
  simp [results, Tryz.results7, go_sem, hW']
end Go.Proofs.YtpklcjbdmikbdaaGreat
namespace Go.Proofs.YtpklcjbdmikbdaaGreat
open Go.RowKit

set_option maxRecDepth 100000 in
set_option maxHeartbeats 4000000 in
theorem pair_no (A B : Option Addr) (c d : Nat) (s h : List Int) (lo hi : Int) (w : World) (rA : RowH w A s.length s) (rB : RowH w B h.length h) (hn : s.length ≤ 1000) (hm : h.length ≤ 1000) (hv : piecesB s h lo hi = false) :
    Calls Tryz.prog 26 #[.slice A s.length c, .slice B h.length d, .agg #[.int .i64 lo, .int .i64 hi]] w fun e w' => e = .returned (.tuple #[.slice none 0 0, .int .i64 0, .int .i64 1]) ∧ Below w.heap.size w w' := by
  have hb1 : Below w.heap.size w (w.alloc (.cells #[.int .i64 lo, .int .i64 hi] 24)) := (Below.refl _ _).alloc (Nat.le_refl _) _
  have k1 := Blk.new w 24 #[.int .i64 lo, .int .i64 hi]
  have M := pieces_any A B c d s h lo hi _ (rA.later hb1).rowI (rB.later hb1).rowI hn hm
  rw [hv] at M
  have HM := Lib.hid M
  clear M hv
  go_enter Tryz.func26, Tryz.ntmps26
  go_wp2_with fail
  refine HM.out.mono ?_
  rintro e w2 ⟨rfl, hb2⟩
  go_wp2_with fail
  go_ret3
  exact ⟨rfl, hb1.trans (hb2.mono hb1.size)⟩
/-- What Pair returns. -/
def PairR (s h : List Int) (lo hi : Int) (w : World) (e : Ending) (w' : World) : Prop :=
  ∃ (R c n left : Nat) (to : List Int) (B : Nat → Prop), e = .returned (.tuple #[.slice (some ⟨R, 0, none⟩) s.length c, .int .i64 n, .int .i64 0]) ∧ RowB w' R to ∧ w.heap.size ≤ R ∧ PairTo (fitP s h lo hi) h.length n s.length B left to ∧ Mx (fitP s h lo hi) (fun _ => True) (· < h.length) n ∧ Below w.heap.size w w'
theorem row_first {to : List Int} {k n : Nat} (hk : to.length = k) (hn : k < n) (v : Int) : (to ++ List.replicate (n - k) 0).set k v = (to ++ [v]) ++ List.replicate (n - (k + 1)) 0 := by
  rw [List.set_append_right _ _ (by omega), hk, Nat.sub_self, show n - k = (n - (k + 1)) + 1 by omega, List.replicate_succ, List.set_cons_zero]
  simp
theorem row_again {to r : List Int} {k : Nat} (hk : to.length = k) (u v : Int) : ((to ++ [u]) ++ r).set k v = (to ++ [v]) ++ r := by
  rw [List.append_assoc, List.set_append_right _ _ (by omega), hk, Nat.sub_self, List.append_assoc]
  rfl
theorem row_get {to r : List Int} {k : Nat} (hk : to.length = k) (u : Int) : ((to ++ [u]) ++ r)[k]? = some u := by
  rw [List.append_assoc, List.getElem?_append_right (by omega), hk, Nat.sub_self]
  rfl
theorem row_get0 {to : List Int} {k n : Nat} (hk : to.length = k) (hn : k < n) : (to ++ List.replicate (n - k) (0 : Int))[k]? = some 0 := by
  rw [List.getElem?_append_right (by omega), hk, Nat.sub_self, List.getElem?_replicate, if_pos (by omega)]
theorem free_set {tk : List Bool} {g : Nat} (hg : g < tk.length) (x : Nat) : ((tk.set g true)[x]? = some false) ↔ (tk[x]? = some false ∧ x ≠ g) := by
  rw [set_true hg]
  by_cases e : g = x
  · subst e; simp
  · rw [if_neg e]; exact ⟨fun h => ⟨h, Ne.symm e⟩, fun h => h.1⟩
theorem set_back {tk : List Bool} {g : Nat} (hg : tk[g]? = some false) : (tk.set g true).set g false = tk := by
  rw [List.set_set]
  refine List.ext_getElem? fun i => ?_
  rw [List.getElem?_set]
  split
  · rename_i e
    subst e
    rw [hg, if_pos (List.getElem?_eq_some_iff.1 hg).1]
  · rfl
def freeP (tk : List Bool) (g : Nat) : Prop := tk[g]? = some false
set_option maxRecDepth 100000 in
set_option maxHeartbeats 16000000 in
theorem pair_yes (A B : Option Addr) (c d : Nat) (s h : List Int) (lo hi : Int) (w : World) (rA : RowH w A s.length s) (rB : RowH w B h.length h) (hv : piecesB s h lo hi = true) :
    Calls Tryz.prog 26 #[.slice A s.length c, .slice B h.length d, .agg #[.int .i64 lo, .int .i64 hi]] w (PairR s h lo hi w) := by
  obtain ⟨hs, hh, l1, l2, _⟩ := piecesB_iff.1 hv
  have hb1 : Below w.heap.size w (w.alloc (.cells #[.int .i64 lo, .int .i64 hi] 24)) := (Below.refl _ _).alloc (Nat.le_refl _) _
  have k1 := Blk.new w 24 #[.int .i64 lo, .int .i64 hi]
  have M := pieces_any A B c d s h lo hi _ (rA.later hb1).rowI (rB.later hb1).rowI (by omega) (by omega)
  rw [hv] at M
  have HM := Lib.hid M
  have HS := Lib.hid hs
  have HH := Lib.hid hh
  clear M hv hs hh
  go_enter Tryz.func26, Tryz.ntmps26
  go_wp2_with fail
  refine HM.out.mono ?_
  rintro e w2 ⟨rfl, hb2⟩
  have k2 := k1.later hb2
  have hc2 := k2.cell
  have hl2 := k2.lt
  have hb3 := hb1.trans (hb2.mono hb1.size)
  clear HM hb1 hb2 k1
  go_upto_region 4 with fail
  have k3 := Blk.new w2 84 #[.slice A s.length c, .slice B h.length d, .int .i64 lo, .int .i64 hi]
  have hb4 : Below w2.heap.size w2 (w2.alloc (.cells #[.slice A s.length c, .slice B h.length d, .int .i64 lo, .int .i64 hi] 84)) := (Below.refl _ _).alloc (Nat.le_refl _) _
  have hb5 := hb3.trans (hb4.mono hb3.size)
  have j : JobW _ w2.heap.size A B c d s h lo hi := ⟨k3, rA.later hb5, rB.later hb5⟩
  have hJN := hb3.size
  clear hc2 hl2 k2 k3 hb3 hb4
  revert hb5 j hJN
  generalize w2.alloc (.cells #[.slice A s.length c, .slice B h.length d, .int .i64 lo, .int .i64 hi] 84) = w3
  generalize w2.heap.size = J
  intro hb5 j hJN
  have HMo := Lib.hid (most_any w3 j HS.out HH.out l1 (by omega))
  go_wp2_with fail
  refine HMo.out.mono ?_
  rintro e w4 ⟨Q, P, sv, c1, n, o0, rfl, hQ, hP, hU, hq1, hq2, hq3, hb6⟩
  have hMx : Mx (fitP s h lo hi) (fun _ => True) (· < h.length) n := hU.mx.congr fun x g => ⟨fun ⟨a, b, r⟩ => ⟨trivial, b, r⟩, fun ⟨a, b, r⟩ => ⟨r.1, b, r⟩⟩
  have hn64 : n ≤ 64 := by
    have := hU.cnt
    have h2 : cnt o0 ≤ o0.length := List.length_filter_le _ _
    have := hU.len
    omega
  have HMx := Lib.hid hMx
  have hb7 := hb5.trans (hb6.mono hb5.size)
  have j4 := j.later hb6
  have HRi := Lib.hid (rising_any B h.length d h w4 (rB.later hb7) (by omega))
  clear HMo hQ hP hU hMx hb5 hb6 hq1 hq2 hq3 j
  go_wp2_with fail
  refine HRi.out.mono ?_
  rintro e w5 ⟨Ro, o, rfl, hRoN, hRo, hop, hos, hb8⟩
  have HO := Lib.hid (Order.of hop hos)
  have j5 := j4.later hb8
  have hb9 := hb7.trans (hb8.mono hb7.size)
  clear HRi hop hos j4 hRoN
  have hmk1 := make_bools h.length (by omega)
  have hmk2 := make_ints s.length (by omega)
  go_upto_region 8 with fail
  have hb10 : Below w5.heap.size w5 (w5.alloc (.cells (boolr (List.replicate h.length false)) 4)) := (Below.refl _ _).alloc (Nat.le_refl _) _
  have hsz : (w5.alloc (.cells (boolr (List.replicate h.length false)) 4)).heap.size = w5.heap.size + 1 := by simp
  have hb11 : Below (w5.alloc (.cells (boolr (List.replicate h.length false)) 4)).heap.size (w5.alloc (.cells (boolr (List.replicate h.length false)) 4)) ((w5.alloc (.cells (boolr (List.replicate h.length false)) 4)).alloc (.cells (rowc (List.replicate s.length 0)) 3)) := (Below.refl _ _).alloc (Nat.le_refl _) _
  have hT := (RowO.new w5 h.length).later hb11
  have hR : RowB ((w5.alloc (.cells (boolr (List.replicate h.length false)) 4)).alloc (.cells (rowc (List.replicate s.length 0)) 3)) (w5.alloc (.cells (boolr (List.replicate h.length false)) 4)).heap.size ([] ++ List.replicate (s.length - 0) 0) :=
    (RowB.of (Blk.new (w5.alloc (.cells (boolr (List.replicate h.length false)) 4)) 3 (rowc (List.replicate s.length 0))) : RowB _ _ (List.replicate s.length 0))
  rw [hsz] at hR
  have hb12 := hb10.trans (hb11.mono (by rw [hsz]; exact Nat.le_succ _))
  have j6 := j5.later hb12
  have hRo6 := hRo.later hb12
  have hRoT := hRo.lt
  have hN5 := hb9.size
  have hJ5 := j5.blk.lt
  have hb13 := hb9.trans (hb12.mono hb9.size)
  have hoff : JobOff (two w5.heap.size (w5.heap.size + 1)) J A B s h := j5.off fun g hg ht => by
    rcases ht with rfl | rfl <;> omega
  clear hmk1 hmk2 hb10 hb11 hb12 hsz hb9 hb8 hb7 j5 hRo
  revert hT hR hb13 j6 hRo6 hRoT hN5 hJ5 hoff
  generalize (w5.alloc (.cells (boolr (List.replicate h.length false)) 4)).alloc (.cells (rowc (List.replicate s.length 0)) 3) = w6
  generalize w5.heap.size = T
  intro hT hR j6 hRo6 hRoT hN5 hJ5 hb13 hoff
  have HOff := Lib.hid hoff
  clear hoff
  go_wp2_with fail
  go_loopw [44, 15] (fun i v wr => ∃ (k left : Nat) (to : List Int) (tk : List Bool), k ≤ s.length ∧ left ≤ 64 ∧ i = .int .i64 k ∧ v = .int .i64 left ∧ RowB wr (T + 1) (to ++ List.replicate (s.length - k) 0) ∧ RowO wr T tk ∧ Hid (tk.length = h.length) ∧ Hid (PairTo (fitP s h lo hi) h.length n k (freeP tk) left to) ∧ Only (two T (T + 1)) w6 wr) (fun i _ _ => s.length - (intOf i).toNat)
  case atStart => exact ⟨0, n, [], _, Nat.zero_le _, hn64, rfl, rfl, hR, hT, by show _ = _; simp, PairTo.first _ fun k => unseen_rep, Only.refl _ _⟩
  case round =>
    clear hT hR
    obtain ⟨k, left, to, tk, hk, hl64, rfl, rfl, hR, hT, hTl, hPT, hon⟩ := hrel
    by_cases hlt : k < s.length
    · have hkl := hPT.out.len
      have HKL := Lib.hid hkl
      have hcR := hR.at_ (row_get0 hkl hlt)
      have hfR := hR.frozen k
      have hlR := hR.lt
      have hR2 := hR.set_ k (-1)
      rw [row_first hkl hlt] at hR2
      have HR2 := Lib.hid hR2
      have HT2 := Lib.hid (hT.far (p := ⟨T + 1, k, none⟩) (by simp) (.int .i64 (-1)))
      have HO2 := Lib.hid (hon.setCell (p := ⟨T + 1, k, none⟩) (.inl (.inr rfl)) (.int .i64 (-1)))
      clear hkl hR2 hR hT hon
      go_upto_region 13 with fail
      revert HR2 HT2 HO2
      generalize wr.setCell ⟨T + 1, k, none⟩ (.int .i64 (-1)) = w7
      intro HR2 HT2 HO2
      clear hcR hfR hlR
      go_wp2_with fail
      go_loopw [52, 15] (fun i v wr => ∃ (g : Nat), g ≤ h.length ∧ i = .int .i64 g ∧ v = .int .i64 left ∧ RowB wr (T + 1) ((to ++ [-1]) ++ List.replicate (s.length - (k + 1)) 0) ∧ RowO wr T tk ∧ Hid (∀ g', g' < g → ¬ Cand (fitP s h lo hi) k (freeP tk) left g') ∧ Only (two T (T + 1)) w6 wr) (fun i _ _ => h.length - (intOf i).toNat)
      case atStart => exact ⟨0, Nat.zero_le _, rfl, rfl, HR2.out, HT2.out, fun g hg => by omega, HO2.out⟩
      case round =>
        clear HR2 HT2 HO2
        obtain ⟨g, hg, rfl, rfl, hR, hT, hF, hon⟩ := hrel
        by_cases hgm : g < h.length
        · have hgt : g < tk.length := by rw [hTl.out]; exact hgm
          have hgi : (g : Int) < (h.length : Int) := by omega
          obtain ⟨b, hb⟩ : ∃ b, tk[g]? = some b := ⟨_, List.getElem?_eq_getElem hgt⟩
          have hcT := hT.at_ hb
          have hlT := hT.lt
          have hlR := hR.lt
          have HB := Lib.hid hb
          clear hb
          have hnext : ¬ Cand (fitP s h lo hi) k (freeP tk) left g → Hid (∀ g', g' < g + 1 → ¬ Cand (fitP s h lo hi) k (freeP tk) left g') := fun hc g' hg' => by
            rcases Nat.lt_or_ge g' g with h5 | h5
            · exact hF.out g' h5
            · obtain rfl : g' = g := by omega
              exact hc
          have HNx := Lib.hid hnext
          clear hnext
          cases b with
          | true =>
            have HF2 := Lib.hid (HNx.out fun hc => by have h1 : tk[g]? = some false := hc.1; rw [HB.out] at h1; cases h1)
            go_wp2_with fail
            go_roundw
            case rel => exact ⟨g + 1, by omega, by go_num, rfl, hR, hT, HF2.out, hon⟩
            case measure => simp [intOf]; omega
          | false =>
            by_cases hl0 : left = 0
            · subst hl0
              have HF2 := Lib.hid (HNx.out fun hc => absurd hc.2.2.1 (by omega))
              go_wp2_with fail
              go_roundw
              case rel => exact ⟨g + 1, by omega, by go_num, rfl, hR, hT, HF2.out, hon⟩
              case measure => simp [intOf]; omega
            · have hl1 : ((left : Int) == 0) = false := by simp; omega
              have HM := Lib.hid (fits_any (lo := lo) (hi := hi) wr (j6.only hon HOff.out) HS.out HH.out k g hlt hgm)
              by_cases hf : fitB s h lo hi k g = true
              · have hF0 := (fitB_iff hlt hgm).1 hf
                rw [hf] at HM
                clear hf
                go_wp2_with fail
                refine HM.out.mono ?_
                rintro e w8 ⟨rfl, hb14⟩
                have hT8 := hT.later hb14
                have hR8 := hR.later hb14
                have hon8 := hon.below hb14
                have hcT8 := hT8.at_ HB.out
                have hfT8 := hT8.frozen g
                have hlT8 := hT8.lt
                have hlR8 := hR8.lt
                have hT9 := hT8.set_ g true
                have hR9 := hR8.far (p := ⟨T, g, none⟩) (by simp) (.bool true)
                have hon9 := hon8.setCell (p := ⟨T, g, none⟩) (.inl (.inl rfl)) (.bool true)
                clear HM hcT hlT hlR hT hR hon hb14
                go_upto_region 18 with fail
                clear hcT8 hfT8 hlT8 hlR8 hT8 hR8 hon8
                revert hT9 hR9 hon9
                generalize w8.setCell ⟨T, g, none⟩ (.bool true) = w9
                intro hT9 hR9 hon9
                have hRo9 := hon9.rowB hRo6 (by unfold two; omega)
                have M := rest_any (lo := lo) (hi := hi) w9 (j6.only hon9 HOff.out) HS.out HH.out l1 (by omega) Ro T h.length h.length (k + 1) o _ hRo9 HO.out hT9 (by rw [List.length_set]; exact hTl.out) (by omega)
                rw [show ((k + 1 : Nat) : Int) = (k : Int) + 1 by omega] at M
                have HMr := Lib.hid M
                clear M hRo9
                go_wp2_with fail
                refine HMr.out.mono ?_
                rintro e w10 ⟨n', rfl, hn', hmx, hb15⟩
                have hT10 := hT9.later hb15
                have hR10 := hR9.later hb15
                have hon10 := hon9.below hb15
                clear HMr hT9 hR9 hon9 hb15
                have hmx' : Mx (fitP s h lo hi) (fun x => k + 1 ≤ x) (fun x => freeP tk x ∧ x ≠ g) n' := hmx.congr fun x y => by rw [free_set hgt]; rfl
                have HX := Lib.hid hmx'
                clear hmx hmx'
                by_cases heq : n' = left - 1
                · have he : ((n' : Int) == (left : Int) - 1) = true := by simp; omega
                  have HC : Hid (Cand (fitP s h lo hi) k (freeP tk) left g) := ⟨HB.out, hF0, by omega, by rw [← heq]; exact HX.out⟩
                  have HP2 := Lib.hid (hPT.out.hit (B' := freeP (tk.set g true)) HC.out hF.out (fun x => free_set hgt x))
                  have hcR := hR10.at_ (row_get HKL.out (-1))
                  have hfR := hR10.frozen k
                  have hlR := hR10.lt
                  have hlT := hT10.lt
                  have hR11 := hR10.set_ k (g : Int)
                  rw [row_again HKL.out] at hR11
                  have HR11 := Lib.hid hR11
                  have HT11 := Lib.hid (hT10.far (p := ⟨T + 1, k, none⟩) (by simp) (.int .i64 (g : Int)))
                  have HO11 := Lib.hid (hon10.setCell (p := ⟨T + 1, k, none⟩) (.inl (.inr rfl)) (.int .i64 (g : Int)))
                  clear hR10 hT10 hon10 hR11 HX HC heq
                  go_wp2_with fail
                  go_roundw
                  case rel => exact ⟨k + 1, left - 1, _, tk.set g true, by omega, by omega, by go_num, congrArg (Value.int .i64) (by omega), HR11.out, HT11.out, by show _ = _; rw [List.length_set]; exact hTl.out, HP2.out, HO11.out⟩
                  case measure => simp [intOf]; omega
                · have he : ((n' : Int) == (left : Int) - 1) = false := by simp; omega
                  have HF2 := Lib.hid (HNx.out fun hc => heq (HX.out.uniq hc.2.2.2))
                  have hgs : (tk.set g true)[g]? = some true := by rw [set_true hgt, if_pos rfl]
                  have hcT := hT10.at_ hgs
                  have hfT := hT10.frozen g
                  have hlR := hR10.lt
                  have hlT := hT10.lt
                  have hT11 := hT10.set_ g false
                  rw [set_back HB.out] at hT11
                  have HT11 := Lib.hid hT11
                  have HR11 := Lib.hid (hR10.far (p := ⟨T, g, none⟩) (by simp) (.bool false))
                  have HO11 := Lib.hid (hon10.setCell (p := ⟨T, g, none⟩) (.inl (.inl rfl)) (.bool false))
                  clear hR10 hT10 hon10 hT11 HX heq hgs
                  go_wp2_with fail
                  go_roundw
                  case rel => exact ⟨g + 1, by omega, by go_num, rfl, HR11.out, HT11.out, HF2.out, HO11.out⟩
                  case measure => simp [intOf]; omega
              · have HF2 := Lib.hid (HNx.out fun hc => hf ((fitB_iff hlt hgm).2 hc.2.1))
                have hf' : fitB s h lo hi k g = false := by simpa using hf
                rw [hf'] at HM
                clear hf hf'
                go_wp2_with fail
                refine HM.out.mono ?_
                rintro e w8 ⟨rfl, hb14⟩
                go_wp2_with fail
                go_roundw
                case rel => exact ⟨g + 1, by omega, by go_num, rfl, hR.later hb14, hT.later hb14, HF2.out, hon.below hb14⟩
                case measure => simp [intOf]; omega
        · obtain rfl : g = h.length := by omega
          have HP2 : Hid (PairTo (fitP s h lo hi) h.length n (k + 1) (freeP tk) left (to ++ [-1])) := hPT.out.miss fun g hc => by
            rcases Nat.lt_or_ge g h.length with h5 | h5
            · exact hF.out g h5 hc
            · have := hc.2.1.2.1; omega
          clear hF hPT
          go_wp2_with fail
          go_roundw
          case rel => exact ⟨k + 1, left, _, tk, by omega, hl64, by go_num, rfl, hR, hT, hTl, HP2, hon⟩
          case measure => simp [intOf]; omega
    · obtain rfl : k = s.length := by omega
      rw [Nat.sub_self, List.replicate_zero, List.append_nil] at hR
      go_wp2_with fail
      go_ret3
      exact ⟨T + 1, s.length, n, left, to, _, rfl, hR, by omega, hPT.out, HMx.out, hb13.trans (hon.to_below hb13.size (fun g hg => by rcases hg with rfl | rfl <;> omega))⟩
end Go.Proofs.YtpklcjbdmikbdaaGreat
namespace Go.Proofs.YtpklcjbdmikbdaaGreat
set_option maxRecDepth 100000
open Go.RowKit

theorem take_same {l r : List Int} {k : Nat} {x y : Int} (hl : l[k]? = some x) (hr : r[k]? = some y) (h : l.take k = r.take k) (e : x = y) : l.take (k + 1) = r.take (k + 1) := by
  rw [List.take_add_one, List.take_add_one, h, hl, hr, e]
theorem getD_some {l : List Int} {k : Nat} (h : k < l.length) : l[k]? = some (l.getD k 0) := by
  rw [List.getD_eq_getElem?_getD, List.getElem?_eq_getElem h]; rfl
set_option maxRecDepth 100000 in
set_option maxHeartbeats 4000000 in
theorem same_any (A B : Option Addr) (n m c d : Nat) (l r : List Int) (w : World) (ha : RowH w A n l) (hb : RowH w B m r) (hn : n ≤ 100000) (hm : m ≤ 100000) :
    Calls Tryz.prog 27 #[.slice A n c, .slice B m d] w fun e w' => e = .returned (.bool (decide (l = r))) ∧ Below w.heap.size w w' := by
  have HLA := Lib.hid ha.1
  have HLB := Lib.hid hb.1
  by_cases hnm : n = m
  · subst hnm
    have hne : ((n : Int) != (n : Int)) = false := by simp
    go_enter Tryz.func27, Tryz.ntmps27
    go_wp2_with fail
    go_loopw [5] (fun i wr => ∃ k : Nat, k ≤ n ∧ i = .int .i64 k ∧ Hid (l.take k = r.take k) ∧ Below w.heap.size w wr) (fun i _ => n - (RowKit.intOf i).toNat)
    case atStart => exact ⟨0, by omega, rfl, rfl, Below.refl _ _⟩
    case round =>
      obtain ⟨k, hk, rfl, hT, hbr⟩ := hrel
      by_cases hlt : k < n
      · obtain ⟨g, rfl, hg, hc⟩ := (ha.later hbr).at_ hlt
        obtain ⟨g2, rfl, hg2, hc2⟩ := (hb.later hbr).at_ hlt
        have hx1 := getD_some (l := l) (k := k) (by rw [HLA.out]; exact hlt)
        have hx2 := getD_some (l := r) (k := k) (by rw [HLB.out]; exact hlt)
        generalize l.getD k 0 = x at *
        generalize r.getD k 0 = y at *
        have HX1 := Lib.hid hx1
        have HX2 := Lib.hid hx2
        have hkn : (k : Int) < (n : Int) := by omega
        have hx := later_cell (w := wr)
        clear hx1 hx2
        by_cases e : x = y
        · have he : (x != y) = false := by simp [e]
          have HT2 := Lib.hid (take_same HX1.out HX2.out hT.out e)
          clear e
          go_wp2_with fail
          refine wp_region_later (by kernel_rfl) (by kernel_rfl) ?_
          repeat (go_big_quiet_step (fail))
          refine wpQuiet_nil ?_
          rintro w2 ⟨⟨_, hb2⟩, rfl⟩
          have hbr2 := hbr.trans (hb2.mono hbr.size)
          clear hx hc hc2 hb2
          go_wp2_with fail
          go_roundw
          case rel => exact ⟨k + 1, by omega, by go_num, HT2.out, hbr2⟩
          case measure => simp [RowKit.intOf]; omega
        · have he : (x != y) = true := by simpa using e
          have HF : Hid (decide (l = r) = false) := by
            show _ = _
            rw [decide_eq_false]
            intro h
            rw [h, HX2.out] at HX1
            exact e (Option.some.inj HX1.out).symm
          clear e
          go_wp2_with fail
          refine wp_region_later (by kernel_rfl) (by kernel_rfl) ?_
          repeat (go_big_quiet_step (fail))
          refine wpQuiet_nil ?_
          rintro w2 ⟨⟨_, hb2⟩, rfl⟩
          have hbr2 := hbr.trans (hb2.mono hbr.size)
          clear hx hc hc2 hb2
          go_wp2_with fail
          go_ret
          exact ⟨by rw [HF.out]; rfl, hbr2⟩
      · obtain rfl : k = n := by omega
        have HF : Hid (decide (l = r) = true) := by
          show _ = _
          have := hT.out
          rw [List.take_of_length_le (by rw [HLA.out]; exact Nat.le_refl _), List.take_of_length_le (by rw [HLB.out]; exact Nat.le_refl _)] at this
          exact decide_eq_true this
        clear hT
        go_wp2_with fail
        go_ret
        exact ⟨by rw [HF.out]; rfl, hbr⟩
  · have hne : ((n : Int) != (m : Int)) = true := by simp; omega
    have HF : Hid (decide (l = r) = false) := by
      show _ = _
      rw [decide_eq_false]
      intro h
      have h1 := HLA.out
      rw [h, HLB.out] at h1
      exact hnm h1.symm
    clear hnm ha hb
    go_enter Tryz.func27, Tryz.ntmps27
    go_wp2_with fail
    go_ret
    exact ⟨by rw [HF.out]; rfl, Below.refl _ _⟩
end Go.Proofs.YtpklcjbdmikbdaaGreat
namespace Go.Proofs.YtpklcjbdmikbdaaGreat
set_option maxRecDepth 100000
open Go.RowKit

def LS : List Int := [10, 10, 11]
def LH : List Int := [12, 13]
theorem mat_le {F : Nat → Nat → Prop} {A B : Nat → Prop} {M : List (Nat × Nat)} (h : Mat F A B M) (ks : List Nat) (hk : ∀ k, B k → k ∈ ks) : M.length ≤ ks.length := by
  have := len_of_sub h.two (b := ks) (fun k hm => by
    obtain ⟨e, he, rfl⟩ := List.mem_map.1 hm
    exact hk _ (h.ok e he).2.1)
  rwa [List.length_map] at this
theorem lives_mx : Mx (fitP LS LH 1 2) (fun _ => True) (· < 2) 2 :=
  ⟨⟨[(0, 0), (2, 1)], ⟨by decide, by decide, fun e he => by
    simp at he
    rcases he with rfl | rfl
    · exact ⟨trivial, by decide, by unfold fitP; decide⟩
    · exact ⟨trivial, by decide, by unfold fitP; decide⟩⟩, rfl⟩, fun M h => mat_le h [0, 1] fun k hk => by
      have : k = 0 ∨ k = 1 := by omega
      simpa using this⟩
theorem lives_pair {n left : Nat} {B : Nat → Prop} {to : List Int} (hm : Mx (fitP LS LH 1 2) (fun _ => True) (· < 2) n) (hp : PairTo (fitP LS LH 1 2) 2 n 3 B left to) : n = 2 ∧ to = [0, -1, 1] := by
  obtain rfl := hm.uniq lives_mx
  refine ⟨rfl, ?_⟩
  have p0 : PairTo (fitP LS LH 1 2) 2 2 0 (· < 2) 2 [] := .first _ fun k => Iff.rfl
  have p1 : PairTo (fitP LS LH 1 2) 2 2 1 (fun h => h < 2 ∧ h ≠ 0) 1 [0] := by
    refine PairTo.hit (k := 0) p0 ⟨by decide, by unfold fitP; decide, by decide, ?_⟩ (fun k hk => absurd hk (by omega)) (fun h => Iff.rfl)
    refine ⟨⟨[(2, 1)], ⟨by decide, by decide, fun e he => by
      simp at he
      subst he
      exact ⟨by decide, by decide, by unfold fitP; decide⟩⟩, rfl⟩, fun M h => mat_le h [1] fun k hk => by
        have : k = 1 := by omega
        simpa using this⟩
  have p2 : PairTo (fitP LS LH 1 2) 2 2 2 (fun h => h < 2 ∧ h ≠ 0) 1 [0, -1] := by
    refine PairTo.miss p1 fun k hc => ?_
    obtain rfl : k = 1 := by have := hc.1; omega
    have := hc.2.1
    unfold fitP at this
    revert this
    decide
  have p3 : PairTo (fitP LS LH 1 2) 2 2 3 (fun h => (h < 2 ∧ h ≠ 0) ∧ h ≠ 1) 0 [0, -1, 1] := by
    refine PairTo.hit (k := 1) p2 ⟨by decide, by unfold fitP; decide, by decide, Mx.none (fun x k _ hk => by omega) rfl⟩ (fun k hk hc => ?_) (fun h => Iff.rfl)
    have := hc.1
    omega
  exact (p3.uniq hp).1
def LP : List Prt := [⟨0, 2, false⟩, ⟨1, 4, true⟩]
theorem lives_yield : goodN 0 0 (gapsL LP) = 2 ∧ (gapsL LP).length = 12 := by decide
set_option maxRecDepth 100000 in
set_option maxHeartbeats 8000000 in
theorem lives_any (w : World) : Calls Tryz.prog 10 #[] w fun e w' => e = .returned (.bool true) ∧ Below w.heap.size w w' := by
  have k1 := RowB.of (l := LS) (Blk.new w 3 (rowc LS))
  have hb1 : Below w.heap.size w (w.alloc (.cells (rowc LS) 3)) := (Below.refl _ _).alloc (Nat.le_refl _) _
  have hsz : (w.alloc (.cells (rowc LS) 3)).heap.size = w.heap.size + 1 := by simp
  have k2 := RowB.of (l := LH) (Blk.new (w.alloc (.cells (rowc LS) 3)) 3 (rowc LH))
  rw [hsz] at k2
  have hb2 : Below (w.alloc (.cells (rowc LS) 3)).heap.size (w.alloc (.cells (rowc LS) 3)) ((w.alloc (.cells (rowc LS) 3)).alloc (.cells (rowc LH) 3)) := (Below.refl _ _).alloc (Nat.le_refl _) _
  have k3 := k1.later hb2
  have hb3 := hb1.trans (hb2.mono (by rw [hsz]; exact Nat.le_succ _))
  have HP : Hid (Calls Tryz.prog 26 #[.slice (some ⟨w.heap.size, 0, none⟩) 3 3, .slice (some ⟨w.heap.size + 1, 0, none⟩) 2 2, .agg #[.int .i64 1, .int .i64 2]] ((w.alloc (.cells (rowc LS) 3)).alloc (.cells (rowc LH) 3)) (PairR LS LH 1 2 ((w.alloc (.cells (rowc LS) 3)).alloc (.cells (rowc LH) 3)))) :=
    pair_yes _ _ 3 2 LS LH 1 2 _ (RowH.of_row k3 rfl) (RowH.of_row k2 rfl) (by decide)
  clear hsz hb1 hb2 k1 k2 k3
  go_enter Tryz.func10, Tryz.ntmps10
  go_wp2_with fail
  refine HP.out.mono ?_
  rintro e w2 ⟨R, c, n, left, to, B, rfl, hR, _, hpt, hmx, hb4⟩
  obtain ⟨rfl, rfl⟩ := lives_pair hmx hpt
  have hb5 := hb3.trans (hb4.mono hb3.size)
  have hR2 : RowH w2 (some ⟨R, 0, none⟩) 3 [0, -1, 1] := RowH.of_row hR rfl
  rw [show LS.length = 3 from rfl]
  clear HP hpt hmx hb3 hb4 hR
  have kY := Blk.new w2 50 #[.int .i64 0, .int .i64 2, .bool false, .int .i64 1, .int .i64 4, .bool true]
  have hb6 : Below w2.heap.size w2 (w2.alloc (.cells #[.int .i64 0, .int .i64 2, .bool false, .int .i64 1, .int .i64 4, .bool true] 50)) := (Below.refl _ _).alloc (Nat.le_refl _) _
  have rP : PartsH (w2.alloc (.cells #[.int .i64 0, .int .i64 2, .bool false, .int .i64 1, .int .i64 4, .bool true] 50)) (some ⟨w2.heap.size, 0, none⟩) 2 LP := by
    refine ⟨rfl, fun _ => ⟨_, rfl, kY.lt, fun k p hk => ?_⟩⟩
    match k with
    | 0 => obtain rfl : ⟨0, 2, false⟩ = p := by simpa [LP] using hk
           exact ⟨kY.cell 0, kY.cell 1, kY.cell 2⟩
    | 1 => obtain rfl : ⟨1, 4, true⟩ = p := by simpa [LP] using hk
           exact ⟨kY.cell 3, kY.cell 4, kY.cell 5⟩
    | k + 2 => simp [LP] at hk
  have M := yield_yes _ 2 2 LP 0 0 _ rP (by decide) (by decide)
  rw [lives_yield.1, lives_yield.2] at M
  have HY := Lib.hid M
  have hR3 := hR2.later hb6
  have hb7 := hb5.trans (hb6.mono hb5.size)
  clear M kY rP hR2 hb5 hb6
  go_wp2_with fail
  refine HY.out.mono ?_
  rintro e w3 ⟨rfl, hb8⟩
  have hR4 := hR3.later hb8
  have hb9 := hb7.trans (hb8.mono hb7.size)
  rw [show fracV 2 12 = .agg #[.int .i64 1, .int .i64 6] by unfold fracV; rw [show Nat.gcd 2 12 = 2 by decide]; rfl]
  clear HY hR3 hb7 hb8
  have kF := Blk.new w3 30 #[.int .i64 1, .int .i64 6]
  have hb10 : Below w3.heap.size w3 (w3.alloc (.cells #[.int .i64 1, .int .i64 6] 30)) := (Below.refl _ _).alloc (Nat.le_refl _) _
  have hsz : (w3.alloc (.cells #[.int .i64 1, .int .i64 6] 30)).heap.size = w3.heap.size + 1 := by simp
  have kS := RowB.of (l := [0, -1, 1]) (Blk.new (w3.alloc (.cells #[.int .i64 1, .int .i64 6] 30)) 3 (rowc [0, -1, 1]))
  rw [hsz] at kS
  have hb11 : Below (w3.alloc (.cells #[.int .i64 1, .int .i64 6] 30)).heap.size (w3.alloc (.cells #[.int .i64 1, .int .i64 6] 30)) ((w3.alloc (.cells #[.int .i64 1, .int .i64 6] 30)).alloc (.cells (rowc [0, -1, 1]) 3)) := (Below.refl _ _).alloc (Nat.le_refl _) _
  have hb12 := hb10.trans (hb11.mono (by rw [hsz]; exact Nat.le_succ _))
  have kF2 := kF.later hb11
  have M := same_any _ _ 3 3 c 3 [0, -1, 1] [0, -1, 1] _ (hR4.later hb12) (RowH.of_row kS rfl) (by omega) (by omega)
  rw [decide_eq_true rfl] at M
  have HS := Lib.hid M
  clear M
  have hb13 := hb9.trans (hb12.mono hb9.size)
  clear kF hb10 hsz kS hb11 hb12 hR4 hb9
  go_wp2_with fail
  refine HS.out.mono ?_
  rintro e w4 ⟨rfl, hb14⟩
  have kF3 := kF2.later hb14
  have cF := kF3.cell
  have lF := kF3.lt
  have hb15 := hb13.trans (hb14.mono hb13.size)
  clear HS kF2 hb13 hb14
  go_wp2_with fail
  go_ret
  exact ⟨rfl, hb15⟩
end Go.Proofs.YtpklcjbdmikbdaaGreat
