/-
  Rows of slices (a job, from when, till when); what heaps, rows and slices keep of one another.
  No conditions.
-/
import Derived.Test.YtnfcigbiebbjdaaSwC
namespace Go.Proofs.Ytnfcigbiebbjdaa
open Go.RowKit

def Sl.cells (s : Sl) : List Value := [.int .i64 s.job, .int .i64 s.fr, .int .i64 s.till]
def sflat : List Sl → List Value
  | [] => []
  | s :: r => s.cells ++ sflat r
theorem sflat_append : ∀ a b : List Sl, sflat (a ++ b) = sflat a ++ sflat b
  | [], b => rfl
  | s :: r, b => by simp only [List.cons_append, sflat, sflat_append r b, List.append_assoc]
theorem sflat_len : ∀ a : List Sl, (sflat a).length = a.length * 3
  | [] => rfl
  | s :: r => by simp only [sflat, List.length_append, sflat_len r, Sl.cells, List.length_cons, List.length_nil]; omega
/-- A slice of slices of the call's own. -/
def OutO (w : World) (M : Nat) (v : Value) (os : List Sl) : Prop := w.ownsRow M 52 3 v os.length (sflat os)
theorem OutO.form {w : World} {M : Nat} {v : Value} {os : List Sl} (h : OutO w M v os) (h0 : 0 < os.length) : ∃ g c, v = .slice (some ⟨g, 0, none⟩) os.length c ∧ os.length ≤ c ∧ M ≤ g ∧ g < w.heap.size ∧ (∀ i, w.frozen? ⟨g, i, none⟩ = false) := by
  rcases h.2 with ⟨_, h1⟩ | ⟨g, cap, cur, h1, h2, h3, h4, _⟩
  · omega
  · exact ⟨g, cap, h1, h4, h2, (Array.getElem?_eq_some_iff.1 h3).1, fun i => by simp [World.frozen?, h3]⟩
theorem sflat_last (os : List Sl) (s : Sl) : sflat (os ++ [s]) = sflat os ++ s.cells := by rw [sflat_append]; simp [sflat]
theorem OutO.last {w : World} {M g c : Nat} {os : List Sl} {s : Sl} (h : OutO w M (.slice (some ⟨g, 0, none⟩) (os.length + 1) c) (os ++ [s])) :
    w.cell? ⟨g, os.length * 3, none⟩ = some (.int .i64 s.job) ∧ w.cell? ⟨g, os.length * 3 + 1, none⟩ = some (.int .i64 s.fr) ∧ w.cell? ⟨g, os.length * 3 + 2, none⟩ = some (.int .i64 s.till) := by
  have hl := sflat_len os
  have h' : w.ownsRow M 52 3 (.slice (some ⟨g, 0, none⟩) (os.length + 1) c) (os.length + 1) (sflat (os ++ [s])) := by
    have h2 := h
    unfold OutO at h2
    rwa [List.length_append] at h2
  have key : ∀ k, k < 3 → w.cell? ⟨g, os.length * 3 + k, none⟩ = s.cells[k]? := fun k hk => by
    have h1 := World.ownsRow.cellAt h' (os.length * 3 + k) (by omega)
    rw [sflat_last, List.getElem?_append_right (by omega), hl, show os.length * 3 + k - os.length * 3 = k by omega] at h1
    exact h1
  exact ⟨key 0 (by omega), key 1 (by omega), key 2 (by omega)⟩
theorem OutO.setLast {w : World} {M g c : Nat} {os : List Sl} {s : Sl} (h : OutO w M (.slice (some ⟨g, 0, none⟩) (os.length + 1) c) (os ++ [s])) (x : Int) :
    OutO (w.setCell ⟨g, os.length * 3 + 2, none⟩ (.int .i64 x)) M (.slice (some ⟨g, 0, none⟩) (os.length + 1) c) (os ++ [⟨s.job, s.fr, x⟩]) := by
  have hl := sflat_len os
  obtain ⟨h1, h2⟩ := h
  rcases h2 with ⟨h2, _⟩ | ⟨g', cap, cur, h2, h3, h4, h5, h6, h7, h8⟩
  · cases h2
  · injection h2 with e1 e2 e3
    cases e1
    subst e3
    refine ⟨by rw [sflat_len], .inr ⟨g, c, cur.setIfInBounds (os.length * 3 + 2) (.int .i64 x), by simp, h3, ?_, by simpa using h5, h6, by simpa using h7, ?_⟩⟩
    · exact Blk.set_ (w := w) (g := g) (t := 52) (cs := cur) h4 (os.length * 3 + 2) (.int .i64 x)
    · rw [Array.toList_setIfInBounds]
      have e4 : (os ++ [s]).length = os.length + 1 := by simp
      have e5 : (os ++ [(⟨s.job, s.fr, x⟩ : Sl)]).length = os.length + 1 := by simp
      rw [e4] at h8
      rw [e5, List.take_set, h8, sflat_last, sflat_last, List.set_append_right _ _ (by omega), hl]
      rw [show os.length * 3 + 2 - os.length * 3 = 2 by omega]
      rfl
theorem OutO.fix {S : Nat → Prop} {w w' : World} {M : Nat} {v : Value} {os : List Sl} (h : OutO w M v os) (hf : Fix S w w') (hv : ∀ g, v.ownBlock = some g → S g) : OutO w' M v os := by
  obtain ⟨h1, h2⟩ := h
  refine ⟨h1, ?_⟩
  rcases h2 with h2 | ⟨g, cap, cur, h2, h3, h4, h5, h6, h7, h8⟩
  · exact .inl h2
  · exact .inr ⟨g, cap, cur, h2, h3, (hf.2.2.2.2 g (hv g (by rw [h2]; rfl))).trans h4, h5, h6, h7, h8⟩
theorem OutO.typ {w : World} {M : Nat} {v : Value} {os : List Sl} (h : OutO w M v os) {g : Nat} (hg : v.ownBlock = some g) : M ≤ g ∧ g < w.heap.size ∧ ∀ t cs, Blk w g t cs → t = 52 := by
  rcases h.2 with ⟨h2, _⟩ | ⟨g', cap, cur, h2, h3, h4, h5, h6, h7, h8⟩
  · rw [h2] at hg; cases hg
  · rw [h2] at hg
    simp [Value.ownBlock] at hg
    subst hg
    refine ⟨h3, (Array.getElem?_eq_some_iff.1 h4).1, fun t cs hb => ?_⟩
    unfold Blk at hb
    rw [h4] at hb
    injection hb with hb
    injection hb with _ ht
    exact ht.symm
/-- A heap, whatever the frame. -/
def HeapA (w : World) (M b : Nat) (fv v : Value) (L : List Int) : Prop := Blk w b 80 #[v, fv] ∧ w.ownsRow M 3 1 v L.length (L.map (Value.int .i64)) ∧ b < M
theorem HeapA.typ {w : World} {M b : Nat} {fv v : Value} {L : List Int} (h : HeapA w M b fv v L) {g : Nat} (hg : v.ownBlock = some g) : M ≤ g ∧ g < w.heap.size ∧ ∀ t cs, Blk w g t cs → t = 3 := by
  rcases h.2.1.2 with ⟨h2, _⟩ | ⟨g', cap, cur, h2, h3, h4, h5, h6, h7, h8⟩
  · rw [h2] at hg; cases hg
  · rw [h2] at hg
    simp [Value.ownBlock] at hg
    subst hg
    refine ⟨h3, (Array.getElem?_eq_some_iff.1 h4).1, fun t cs hb => ?_⟩
    unfold Blk at hb
    rw [h4] at hb
    injection hb with hb
    injection hb with _ ht
    exact ht.symm
theorem HeapA.fix {S : Nat → Prop} {w w' : World} {M b : Nat} {fv v : Value} {L : List Int} (h : HeapA w M b fv v L) (hf : Fix S w w') (hb : S b) (hv : ∀ g, v.ownBlock = some g → S g) : HeapA w' M b fv v L := by
  obtain ⟨h0, ⟨h1, h2⟩, h9⟩ := h
  refine ⟨h0.fix hf hb, ⟨h1, ?_⟩, h9⟩
  rcases h2 with h2 | ⟨g, cap, cur, h2, h3, h4, h5, h6, h7, h8⟩
  · exact .inl h2
  · exact .inr ⟨g, cap, cur, h2, h3, (hf.2.2.2.2 g (hv g (by rw [h2]; rfl))).trans h4, h5, h6, h7, h8⟩
/-- All but the heap's own blocks. -/
def Oth (w : World) (b : Nat) (v : Value) (k : Nat) : Prop := k < w.heap.size ∧ k ≠ b ∧ v.ownBlock ≠ some k
theorem HeapA.heapS {w : World} {M b : Nat} {fv v : Value} {L : List Int} (h : HeapA w M b fv v L) : HeapS (Oth w b v) w.heap.size M w b fv v L :=
  ⟨h.1, h.2.1, fun hk => hk.2.1 rfl, fun _ hk hS => hS.2.2 hk, Nat.le_refl _⟩
theorem HeapS.heapA {S : Nat → Prop} {N0 M : Nat} {w : World} {b : Nat} {fv v : Value} {L : List Int} (h : HeapS S N0 M w b fv v L) (hb : b < M) : HeapA w M b fv v L := ⟨h.1, h.2.1, hb⟩
theorem Fix.sub {S T : Nat → Prop} {w w' : World} (h : Fix S w w') (hs : ∀ k, T k → S k) : Fix T w w' := ⟨h.1, h.2.1, h.2.2.1, h.2.2.2.1, fun k hk => h.2.2.2.2 k (hs k hk)⟩
theorem RowB.fix {S : Nat → Prop} {w w' : World} {R : Nat} {l : List Int} (h : RowB w R l) (hf : Fix S w w') (hR : S R) : RowB w' R l := by
  obtain ⟨rest, h⟩ := h
  exact ⟨rest, h.fix hf hR⟩
theorem RowT.fix {S : Nat → Prop} {w w' : World} {R n : Nat} {f : Int → Int} (h : RowT w R n f) (hf : Fix S w w') (hR : S R) : RowT w' R n f := RowB.fix h hf hR
theorem JobsH.fix {S : Nat → Prop} {w0 w w' : World} {A : Option Addr} {n : Nat} {l : List Jb} (h : JobsH w0 A n l) (hb : Below w0.heap.size w0 w) (hf : Fix S w w') (hS : ∀ k, k < w0.heap.size → S k) : JobsH w' A n l := h.later (hb.trans (hf.below hS))
theorem info52 : (Try.prog.info? 52).map (fun i => (i.zero, i.size, i.bytes)) = some (some (.agg #[.int .i64 0, .int .i64 0, .int .i64 0]), 3, 24) := by kernel_rfl
theorem app_sl (w : World) {ops : Array Oper} {rest : List Oper} {o : Oper} {a : Act} {Q : Exit → Act → World → Prop} (hgd : o.guard = none) (s x : Operand)
    (ho : o.op = .call { callee := .builtin .append, args := #[s, x], argTypes := #[44, 44] }) (M : Nat) (v : Value) (os : List Sl) (hs : a.eval s = v) (hown : OutO w M v os)
    (ad : Addr) (c : Nat) (z : Sl) (hx : a.eval x = .slice (some ad) 1 c) (hnews : ∀ j u, (Sl.cells z)[j]? = some u → w.cell? (ad.add j) = some u) (hn : os.length ≤ 1000) (hbase : M ≤ w.heap.size)
    (h : ∀ g cap w', OutO w' M (.slice (some ⟨g, 0, none⟩) (os.length + 1) cap) (os ++ [z]) → w.grownBy w' v.ownBlock → (v.ownBlock = some g ∨ g = w.heap.size) → wpList Try.prog ops Q rest (a.put o.dst (.slice (some ⟨g, 0, none⟩) (os.length + 1) cap)) w') : wpList Try.prog ops Q (o :: rest) a w := by
  obtain ⟨i0, hi, hz0, hz1, hz2⟩ := info_parts info52
  refine wpList_append_lies w hgd s x 44 ho M 52 i0 _ 3 24 Try.underlying44 hi hz0 hz1 hz2 rfl (by decide) v os.length _ hs hown ad 1 c z.cells hx (by rfl) hnews (fun u hu => by
    simp only [Sl.cells, List.mem_cons, List.not_mem_nil, or_false] at hu
    rcases hu with rfl | rfl | rfl <;> rfl) (by decide) (by unfold maxLen; omega) (by omega) hbase _ rfl ?_
  intro g cap w' hown' hgr hat _
  refine h g cap w' ?_ hgr hat
  unfold OutO
  rw [sflat_last, List.length_append]
  exact hown'
end Go.Proofs.Ytnfcigbiebbjdaa
