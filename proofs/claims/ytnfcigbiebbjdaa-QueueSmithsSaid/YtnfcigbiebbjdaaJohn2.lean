/-
  Johnson's order, where the times are valid: the order is sorted by his rule; its length is told.
  Conditions: the times are valid; the slices start at the heads of blocks.
-/
import Derived.Test.YtnfcigbiebbjdaaJohn
namespace Go.Proofs.Ytnfcigbiebbjdaa
open Go.RowKit

theorem RowH.past {w w' : World} {A : Option Addr} {n : Nat} {l : List Int} {r : Nat} (h : RowH w A n l) (hb : w.grownBy w' (some r)) (hr : 0 < n → ∀ g, A = some ⟨g, 0, none⟩ → g ≠ r) : RowH w' A n l :=
  ⟨h.1, fun hn => by
    obtain ⟨g, e, hg, hc⟩ := h.2 hn
    have hne := hr hn g e
    refine ⟨g, e, Nat.lt_of_lt_of_le hg hb.size, fun k v hk => ?_⟩
    have hbk := hb.block g hg (by simp; exact hne)
    have h0 := hc k v hk
    simp only [World.cell?] at h0 ⊢
    rw [hbk]
    exact h0⟩
theorem results_tmp3 {fn : Func} {t u v : Tmp} (h : fn.results = #[.tmp t, .tmp u, .tmp v]) (tmps : Array Value) (P : Program) (w : World) :
    (results fn tmps).run P w = .ok (.tuple #[tmps.getD t undef, tmps.getD u undef, tmps.getD v undef]) w := by simp [results, h]
/-- What Johnson returns. -/
def JohnR (w : World) (f s : List Int) (n : Nat) (e : Ending) (w' : World) : Prop :=
  ∃ (R : Nat) (o : List Int), e = .returned (.tuple #[.slice (some ⟨R, 0, none⟩) n n, .int .i64 (lenF f s 0 0 o), .int .i64 0]) ∧ o.Perm (nums n) ∧ o.Pairwise (leOf (johnC f s)) ∧ RowH w' (some ⟨R, 0, none⟩) n o ∧ Below w.heap.size w w'

theorem john_cmp {w0 : World} {A B : Option Addr} {n c d b2 b3 R : Nat} {f s : List Int} (h2 : Blk w0 b2 23 #[.slice A n c]) (h3 : Blk w0 b3 23 #[.slice B n d]) (rA : RowH w0 A n f) (rB : RowH w0 B n s) (n2 : b2 ≠ R) (n3 : b3 ≠ R)
    (nA : 0 < n → ∀ g, A = some ⟨g, 0, none⟩ → g ≠ R) (nB : 0 < n → ∀ g, B = some ⟨g, 0, none⟩ → g ≠ R) : Cmp 59 #[.pointer (some ⟨b2, 0, none⟩), .pointer (some ⟨b3, 0, none⟩)] (johnC f s) w0 R (fun x => 0 ≤ x ∧ x < (n : Int)) where
  enters := enters_of Try.func59 (by kernel_rfl) rfl
  tells := by
    rintro W hW x y ⟨x0, x1⟩ ⟨y0, y1⟩
    obtain ⟨i, rfl⟩ := Int.eq_ofNat_of_zero_le x0
    obtain ⟨j, rfl⟩ := Int.eq_ofNat_of_zero_le y0
    have hn : 0 < n := by omega
    exact johnCmp_any A B n c d b2 b3 i j f s W (h2.grown hW (by simp; exact n2)) (h3.grown hW (by simp; exact n3)) (rA.past hW nA) (rB.past hW nB) (by omega) (by omega)
theorem nums_agrees (cf : Int → Int → Int) (n : Nat) : (nums n).Pairwise (Agrees cf (leOf cf)) := by
  rw [List.pairwise_iff_getElem]
  intro i j hi hj hij
  have e1 : (nums n)[i] = (i : Int) := by
    have := nums_get (n := n) (i := i) (by rwa [nums_length] at hi)
    exact (List.getElem?_eq_some_iff.1 this).2
  have e2 : (nums n)[j] = (j : Int) := by
    have := nums_get (n := n) (i := j) (by rwa [nums_length] at hj)
    exact (List.getElem?_eq_some_iff.1 this).2
  rw [e1, e2]
  exact Swo.agree (by omega)

set_option maxHeartbeats 1000000 in
theorem Johnson_yes (A B : Option Addr) (n c d : Nat) (f s : List Int) (w : World) (rA : RowH w A n f) (rB : RowH w B n s) (sf : Small f) (ss : Small s) (hn : n ≤ 64) :
    Calls Try.prog 25 #[.slice A n c, .slice B n d] w (JohnR w f s n) := by
  have HA := Lib.hid sf
  have HB := Lib.hid ss
  have hw2 : Below w.heap.size w ((w.alloc (.cells #[.slice A n c] 23)).alloc (.cells #[.slice B n d] 23)) := ((Below.refl _ _).alloc (Nat.le_refl _) _).alloc (by simp) _
  have k2 : Blk ((w.alloc (.cells #[.slice A n c] 23)).alloc (.cells #[.slice B n d] 23)) w.heap.size 23 #[.slice A n c] := (Blk.new w 23 #[.slice A n c]).alloc _
  have k3 : Blk ((w.alloc (.cells #[.slice A n c] 23)).alloc (.cells #[.slice B n d] 23)) (w.heap.size + 1) 23 #[.slice B n d] := by
    have h := Blk.new (w.alloc (.cells #[.slice A n c] 23)) 23 #[.slice B n d]
    rwa [World.size_alloc] at h
  have M1 := Lib.hid (benches_yes A B n c d f s _ (rA.later hw2) (rB.later hw2) sf ss hn)
  have gA := Lib.hid (show 0 < n → ∀ g, A = some ⟨g, 0, none⟩ → g < w.heap.size from fun h g e => by obtain ⟨g', e', hg, _⟩ := rA.2 h; rw [e] at e'; cases e'; exact hg)
  have gB := Lib.hid (show 0 < n → ∀ g, B = some ⟨g, 0, none⟩ → g < w.heap.size from fun h g e => by obtain ⟨g', e', hg, _⟩ := rB.2 h; rw [e] at e'; cases e'; exact hg)
  clear sf ss
  go_enter Try.func25, Try.ntmps25
  go_wp2_with fail
  refine M1.out.mono ?_
  rintro e w1 ⟨rfl, hb1⟩
  have c2 := (k2.later hb1).cell
  have c3 := (k3.later hb1).cell
  have z3 := (k3.later hb1).lt
  have hw1 := hw2.trans (hb1.mono (by simp; omega))
  go_wp2_with fail
  refine (numbers_any n w1 (by omega)).mono ?_
  rintro e w2 ⟨rfl, hB, hb2⟩
  have hw2' := hw1.trans (hb2.mono hw1.size)
  have q2 := (k2.later hb1).later hb2
  have q3 := (k3.later hb1).later hb2
  have rA2 := rA.later hw2'
  have rB2 := rB.later hw2'
  obtain ⟨R, hR⟩ : ∃ R, R = w1.heap.size := ⟨_, rfl⟩
  rw [← hR] at hB z3 ⊢
  have hRw : w.heap.size ≤ R := by omega
  have C := john_cmp (R := R) q2 q3 rA2 rB2 (by omega) (by omega) (fun h g e => by have := gA.out h g e; omega) (fun h g e => by have := gB.out h g e; omega)
  have M2 := Lib.hid (sort_any C (john_swo f s).tot (nums n) n w2 (fun x hx => mem_nums.1 hx) (nums_agrees _ n) hB (World.grownBy.refl _ _) n (nums_length n).symm (by omega))
  have x2 := q2.cell
  have x3 := q3.cell
  have y3 := q3.lt
  have HR := Lib.hid hR
  clear c2 c3 hB C hR
  go_wp2_with fail
  refine M2.out.mono ?_
  rintro e w3 ⟨rfl, o, hP, hS, hB3, hg3⟩
  have HP := Lib.hid hP
  have HS := Lib.hid hS
  have p2 := q2.grown hg3 (by simp; omega)
  have p3 := q3.grown hg3 (by simp; omega)
  have rA3 := rA2.past hg3 fun h g e => by have := gA.out h g e; omega
  have rB3 := rB2.past hg3 fun h g e => by have := gB.out h g e; omega
  have rO := RowH.of_row (n := n) hB3 (by rw [HP.out.length_eq, nums_length])
  have M3 := Lib.hid (length_any A B (some ⟨R, 0, none⟩) n c d n n f s o w3 rA3 rB3 rO HA.out HB.out (fun x hx => mem_nums.1 (HP.out.mem_iff.1 hx)) (by omega))
  have v2 := p2.cell
  have v3 := p3.cell
  have u3 := p3.lt
  have hfin : Below w.heap.size w w3 := hw2'.trans (below_of_only hg3 hRw hw2'.size)
  clear x2 x3 y3 hP hS M2
  go_wp2_with fail
  refine M3.out.mono ?_
  rintro e w' ⟨rfl, rfl⟩
  go_wp2_with fail
  (try simp only [Exit.inBlock, Exit.then]); refine bodyPost_ret (results_tmp3 rfl _ _ _) rfl ?_
  exact ⟨R, o, rfl, HP.out, HS.out, rO, hfin⟩
end Go.Proofs.Ytnfcigbiebbjdaa
