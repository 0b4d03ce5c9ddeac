/-
  Jobs that wait in a heap: its own methods.
  Conditions: the heap's list lies in a block of the call's own.
-/
import Derived.Test.YtnfcigbiebbjdaaHeapm
namespace Go.Proofs.Ytnfcigbiebbjdaa
open Go.RowKit

/-- What lies in the blocks of S lies as it lay. -/
def Fix (S : Nat → Prop) (W W' : World) : Prop := W'.os = W.os ∧ W'.tape = W.tape ∧ W'.output = W.output ∧ W.heap.size ≤ W'.heap.size ∧ ∀ k, S k → W'.heap[k]? = W.heap[k]?
theorem Fix.refl (S : Nat → Prop) (W : World) : Fix S W W := ⟨rfl, rfl, rfl, Nat.le_refl _, fun _ _ => rfl⟩
theorem Fix.trans {S : Nat → Prop} {A B C : World} (h1 : Fix S A B) (h2 : Fix S B C) : Fix S A C :=
  ⟨h2.1.trans h1.1, h2.2.1.trans h1.2.1, h2.2.2.1.trans h1.2.2.1, Nat.le_trans h1.2.2.2.1 h2.2.2.2.1, fun k hk => (h2.2.2.2.2 k hk).trans (h1.2.2.2.2 k hk)⟩
theorem Fix.of_below {S : Nat → Prop} {N : Nat} {A B : World} (h : Below N A B) (hS : ∀ k, S k → k < N) : Fix S A B := ⟨h.os, h.tape, h.output, h.size, fun k hk => h.block k (hS k hk)⟩
theorem Fix.below {S : Nat → Prop} {N : Nat} {A B : World} (h : Fix S A B) (hS : ∀ k, k < N → S k) : Below N A B := ⟨h.1, h.2.1, h.2.2.1, h.2.2.2.1, fun k hk => h.2.2.2.2 k (hS k hk)⟩
theorem Fix.setCell {S : Nat → Prop} {A B : World} (h : Fix S A B) {p : Addr} (hp : ¬ S p.block) (u : Value) : Fix S A (B.setCell p u) :=
  ⟨h.1, h.2.1, h.2.2.1, by simpa [World.setCell] using h.2.2.2.1, fun k hk => (Below.heap_setCell B p u k (fun e => hp (e ▸ hk))).trans (h.2.2.2.2 k hk)⟩
theorem Fix.drew {S : Nat → Prop} {A B : World} (h : Fix S A B) : Fix S A B.drew := ⟨h.1, h.2.1, h.2.2.1, h.2.2.2.1, h.2.2.2.2⟩
theorem Fix.grown {S : Nat → Prop} {N : Nat} {A B C : World} (h : Fix S A B) {row : Option Nat} (hg : B.grownBy C row) (hS : ∀ k, S k → k < N) (hN : N ≤ B.heap.size) (hr : ∀ k, row = some k → ¬ S k) : Fix S A C :=
  ⟨hg.os.trans h.1, hg.tape.trans h.2.1, hg.output.trans h.2.2.1, Nat.le_trans h.2.2.2.1 hg.size, fun k hk => (hg.block k (Nat.lt_of_lt_of_le (hS k hk) hN) (fun e => hr k e.symm hk)).trans (h.2.2.2.2 k hk)⟩

theorem own_set {w : World} {base R n c : Nat} {l : List Int} (h : w.ownsRow base 3 1 (.slice (some ⟨R, 0, none⟩) n c) n (l.map (Value.int .i64))) (i : Nat) (x : Int) :
    (w.setCell ⟨R, i, none⟩ (.int .i64 x)).ownsRow base 3 1 (.slice (some ⟨R, 0, none⟩) n c) n ((l.set i x).map (Value.int .i64)) := by
  obtain ⟨hl, h2⟩ := h
  rcases h2 with ⟨h2, _⟩ | ⟨g, cap, cur, h2, h3, h4, h5, h6, h7, h8⟩
  · cases h2
  · cases h2
    refine ⟨by simpa using hl, .inr ⟨R, c, cur.setIfInBounds i (.int .i64 x), rfl, h3, ?_, h5, h6, by simpa using h7, ?_⟩⟩
    · exact Blk.set_ (w := w) (g := R) (t := 3) (cs := cur) h4 i (.int .i64 x)
    · rw [Array.toList_setIfInBounds, List.take_set, h8, List.map_set]
theorem own_short {w : World} {base R n c : Nat} {l : List Int} (h : w.ownsRow base 3 1 (.slice (some ⟨R, 0, none⟩) n c) n (l.map (Value.int .i64))) (m : Nat) (hm : m ≤ n) :
    w.ownsRow base 3 1 (.slice (some ⟨R, 0, none⟩) m c) m ((l.take m).map (Value.int .i64)) := by
  obtain ⟨hl, h2⟩ := h
  simp only [List.length_map, Nat.mul_one] at hl
  rcases h2 with ⟨h2, _⟩ | ⟨g, cap, cur, h2, h3, h4, h5, h6, h7, h8⟩
  · cases h2
  · cases h2
    refine ⟨by simp; omega, .inr ⟨R, c, cur, rfl, h3, h4, by omega, h6, h7, ?_⟩⟩
    rw [Nat.mul_one] at h8 ⊢
    rw [List.map_take, ← h8, List.take_take]
    congr 1
    omega

section
variable (S : Nat → Prop) (N0 base : Nat)
/-- Block b is a heap that holds L. -/
def HeapS (w : World) (b : Nat) (fv v : Value) (L : List Int) : Prop :=
  Blk w b 80 #[v, fv] ∧ w.ownsRow base 3 1 v L.length (L.map (Value.int .i64)) ∧ ¬ S b ∧ (∀ k, v.ownBlock = some k → ¬ S k) ∧ N0 ≤ w.heap.size
end
section
variable {S : Nat → Prop} {N0 base : Nat}
theorem HeapS.later {w w' : World} {b : Nat} {fv v : Value} {L : List Int} (h : HeapS S N0 base w b fv v L) (hb : Below w.heap.size w w') : HeapS S N0 base w' b fv v L :=
  ⟨h.1.later hb, own_later h.2.1 hb, h.2.2.1, h.2.2.2.1, Nat.le_trans h.2.2.2.2 hb.size⟩
theorem HeapS.some_ {w : World} {b : Nat} {fv v : Value} {L : List Int} (h : HeapS S N0 base w b fv v L) (h0 : 0 < L.length) : ∃ R c, v = .slice (some ⟨R, 0, none⟩) L.length c ∧ L.length ≤ c ∧ R ≠ b ∧ R < w.heap.size ∧ ¬ S R ∧ (∀ i, i < L.length → w.cell? ⟨R, i, none⟩ = some (.int .i64 (at_ L i))) ∧ (∀ i, w.frozen? ⟨R, i, none⟩ = false) := by
  obtain ⟨h1, h2, h3, h4, h5⟩ := h
  have hown := h2
  rcases h2.2 with ⟨_, h6⟩ | ⟨g, cap, cur, h6, h7, h8, h9, h10, h11, h12⟩
  · omega
  · subst h6
    refine ⟨g, cap, rfl, h9, ?_, (Array.getElem?_eq_some_iff.1 h8).1, h4 g rfl, fun i hi => ?_, fun i => by simp [World.frozen?, h8]⟩
    · rintro rfl
      unfold Blk at h1
      rw [h8] at h1
      injection h1 with h1
      injection h1 with _ ht
      exact absurd ht (by decide)
    · have := hown.cellAt i (by omega)
      rw [List.getElem?_map, getD_get hi] at this
      exact this
theorem len_h {w : World} {b : Nat} {fv v : Value} {L : List Int} (h : HeapS S N0 base w b fv v L) : Calls Try.prog 68 #[.pointer (some ⟨b, 0, none⟩)] w fun e w' => e = .returned (.int .i64 L.length) ∧ w = w' := by
  obtain ⟨A, c, rfl⟩ := own_slice h.2.1
  have hc := h.1.cell
  have hl := h.1.lt
  go_enter Try.func68, Try.ntmps68
  go_wp2_with fail
  go_ret
  exact ⟨rfl, rfl⟩
theorem first_h {w : World} {b : Nat} {fv v : Value} {L : List Int} (h : HeapS S N0 base w b fv v L) (h0 : 0 < L.length) : Calls Try.prog 69 #[.pointer (some ⟨b, 0, none⟩)] w fun e w' => e = .returned (.int .i64 (at_ L 0)) ∧ w = w' := by
  obtain ⟨R, c, rfl, hcap, hne, hR, _, hcell, _⟩ := h.some_ h0
  have hc := h.1.cell
  have hl := h.1.lt
  have hc0 := hcell 0 h0
  have h0i : (0 : Int) < (L.length : Int) := by omega
  go_enter Try.func69, Try.ntmps69
  go_wp2_with fail
  go_ret
  exact ⟨rfl, rfl⟩

/-- A comparison that tells lt. -/
structure LessC (S : Nat → Prop) (W0 : World) (g : Nat) (cb : Array Value) (lt : Int → Int → Bool) (D : Int → Prop) : Prop where
  enters : ∀ args w, (callFunc g args).run Try.prog w = .ok (.enter g args) w
  tells : ∀ W, Fix S W0 W → ∀ x y, D x → D y → Calls Try.prog g (#[.int .i64 x, .int .i64 y] ++ cb) W fun e w' => e = .returned (.bool (lt x y)) ∧ Below W.heap.size W w'

set_option maxRecDepth 100000 in
set_option maxHeartbeats 1000000 in
theorem less_h {w W0 : World} {b g : Nat} {cb : Array Value} {v : Value} {L : List Int} {lt : Int → Int → Bool} {D : Int → Prop} (hS : ∀ k, S k → k < N0) (h : HeapS S N0 base w b (.func (.func g) #[] cb) v L) (C : LessC S W0 g cb lt D) (hw : Fix S W0 w) (hD : ∀ x ∈ L, D x)
    (i j : Nat) (hi : i < L.length) (hj : j < L.length) (hn : L.length ≤ 1000) :
    Calls Try.prog 132 #[.pointer (some ⟨b, 0, none⟩), .int .i64 i, .int .i64 j] w fun e w' => e = .returned (.bool (lt (at_ L i) (at_ L j))) ∧ Below w.heap.size w w' := by
  obtain ⟨R, c, rfl, hcap, hne, hR, _, hcell, _⟩ := h.some_ (by omega)
  have eg := C.enters
  have hc := h.1.cell
  have hl := h.1.lt
  have ci := hcell i hi
  have cj := hcell j hj
  have hii : (i : Int) < (L.length : Int) := by omega
  have hji : (j : Int) < (L.length : Int) := by omega
  have hDi : D (at_ L i) := hD _ (List.mem_of_getElem? (getD_get hi))
  have hDj : D (at_ L j) := hD _ (List.mem_of_getElem? (getD_get hj))
  have M : Hid (∀ y : Later w, Hid (Calls Try.prog g (#[.int .i64 (at_ L i), .int .i64 (at_ L j)] ++ cb) y.val fun e w' => e = .returned (.bool (lt (at_ L i) (at_ L j))) ∧ ∃ z : Later w, w' = z.val)) := fun y =>
    later_call (C.tells y.val (hw.trans (Fix.of_below y.property (fun k hk => Nat.lt_of_lt_of_le (hS k hk) h.2.2.2.2))) _ _ hDi hDj)
  have hxl := later_cell (w := w)
  obtain ⟨n, hnl⟩ : ∃ n, n = L.length := ⟨_, rfl⟩
  rw [← hnl] at hii hji hcap hn hc
  clear C h hcell hDi hDj hD hw hi hj hnl
  generalize at_ L i = x at *
  generalize at_ L j = y at *
  go_enter Try.func132, Try.ntmps132
  go_wp2_with fail
  refine wp_region_later (by kernel_rfl) (by kernel_rfl) ?_
  repeat (go_big_quiet_step ((first | (go_at_fn g; exact (M.out _).out))))
  refine wpQuiet_nil ?_
  rintro w2 ⟨⟨_, hb2⟩, rfl⟩
  go_wp2_with fail
  go_ret
  exact ⟨rfl, hb2⟩

set_option maxRecDepth 100000 in
set_option maxHeartbeats 2000000 in
theorem swap_h {w W0 : World} {b : Nat} {fv v : Value} {L : List Int} (h : HeapS S N0 base w b fv v L) (hw : Fix S W0 w) (i j : Nat) (hi : i < L.length) (hj : j < L.length) (hn : L.length ≤ 1000) :
    Calls Try.prog 135 #[.pointer (some ⟨b, 0, none⟩), .int .i64 i, .int .i64 j] w fun e w' => e = .returned (.tuple #[]) ∧ HeapS S N0 base w' b fv v (swp L i j) ∧ Fix S W0 w' := by
  obtain ⟨R, c, rfl, hcap, hne, hR, hSR, hcell, hfr⟩ := h.some_ (by omega)
  have hc := h.1.cell
  have hl := h.1.lt
  have ci := hcell i hi
  have cj := hcell j hj
  have fi := hfr i
  have fj := hfr j
  have hii : (i : Int) < (L.length : Int) := by omega
  have hji : (j : Int) < (L.length : Int) := by omega
  have hown1 := own_set h.2.1 i (at_ L j)
  have hown2 := own_set hown1 j (at_ L i)
  obtain ⟨z, cj2⟩ : ∃ z, (w.setCell ⟨R, i, none⟩ (.int .i64 (at_ L j))).cell? ⟨R, j, none⟩ = some (.int .i64 z) := by
    have := hown1.cellAt j (by omega)
    rw [List.getElem?_map, List.getElem?_eq_getElem (by simpa using hj)] at this
    exact ⟨_, this⟩
  have fj2 : (w.setCell ⟨R, i, none⟩ (.int .i64 (at_ L j))).frozen? ⟨R, j, none⟩ = false := by rw [World.frozen?_setCell]; exact hfr j
  have hb2 : Blk ((w.setCell ⟨R, i, none⟩ (.int .i64 (at_ L j))).setCell ⟨R, j, none⟩ (.int .i64 (at_ L i))) b 80 #[.slice (some ⟨R, 0, none⟩) L.length c, fv] := (h.1.far (p := ⟨R, i, none⟩) (fun e => hne e.symm) _).far (p := ⟨R, j, none⟩) (fun e => hne e.symm) _
  have hf2 := (hw.setCell (p := ⟨R, i, none⟩) hSR (.int .i64 (at_ L j))).setCell (p := ⟨R, j, none⟩) hSR (.int .i64 (at_ L i))
  have hfin : Hid (HeapS S N0 base ((w.setCell ⟨R, i, none⟩ (.int .i64 (at_ L j))).setCell ⟨R, j, none⟩ (.int .i64 (at_ L i))) b fv (.slice (some ⟨R, 0, none⟩) L.length c) (swp L i j) ∧ Fix S W0 ((w.setCell ⟨R, i, none⟩ (.int .i64 (at_ L j))).setCell ⟨R, j, none⟩ (.int .i64 (at_ L i)))) := by
    refine ⟨⟨hb2, ?_, h.2.2.1, h.2.2.2.1, by simpa [World.setCell] using h.2.2.2.2⟩, hf2⟩
    rw [swp_len]
    exact hown2
  have hDrew : Hid (∀ (W : World), HeapS S N0 base W b fv (.slice (some ⟨R, 0, none⟩) L.length c) (swp L i j) ∧ Fix S W0 W → HeapS S N0 base W.drew b fv (.slice (some ⟨R, 0, none⟩) L.length c) (swp L i j) ∧ Fix S W0 W.drew) := fun W hW =>
    ⟨hW.1.later (Below.refl _ _).drew, hW.2.drew⟩
  obtain ⟨n, hnl⟩ : ∃ n, n = L.length := ⟨_, rfl⟩
  rw [← hnl] at hii hji hcap hn hc hfin hDrew ⊢
  clear h hcell hfr hw hi hj hnl hown1 hown2 hb2 hf2
  generalize at_ L i = x at *
  generalize at_ L j = y at *
  go_enter Try.func135, Try.ntmps135
  go_wp2_with fail
  go_big_region
  all_goals go_wp2_with fail
  all_goals go_end0
  all_goals exact ⟨rfl, hDrew.out _ hfin.out⟩
end
end Go.Proofs.Ytnfcigbiebbjdaa
