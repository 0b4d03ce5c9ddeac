/-
  A job more behind the copied ones: what lies in memory.
  No conditions.
-/
import Derived.Test.YtnfcigbiebbjdaaLatI
namespace Go.Proofs.Ytnfcigbiebbjdaa
open Go.RowKit

theorem box_far {w : World} {M n c bl i : Nat} {A : Option Addr} {js : List Jb} {x0 x1 x2 x3 x4 u : Value} (h : FewP w M A n c js) (hb : Blk w bl 43 #[x0, x1, x2, x3, x4]) (hl : bl < M) : FewP (w.setCell ⟨bl, i, none⟩ u) M A n c js := by
  obtain ⟨vs, h1, h2⟩ := h
  have hgr := only_setCell (World.grownBy.refl w (some bl)) (p := ⟨bl, i, none⟩) (.inl rfl) u
  have hx : w.ownsRow 0 43 5 (.slice (some ⟨bl, 0, none⟩) 1 1) 1 [x0, x1, x2, x3, x4] := ⟨rfl, .inr ⟨bl, 1, #[x0, x1, x2, x3, x4], rfl, Nat.zero_le _, hb, Nat.le_refl _, by unfold maxLen; omega, rfl, rfl⟩⟩
  refine ⟨vs, h1.kept hgr ?_, h2.mono fun v l hr => hr.kept hx (by decide) hgr⟩
  cases hv : (Value.slice A n c).ownBlock with
  | none => exact .inl rfl
  | some g =>
    have := (h1.lt g hv).1
    exact .inr (by simp; omega)
theorem few_snoc {w w' : World} {M n : Nat} {v v' : Value} {js : List Jb} {vs : List Value} {L : Jb} (hown : w.ownsRow M 43 5 v n (jflat js vs)) (haft : Afters w vs (js.map Jb.after))
    (hnew : w'.ownsRow M 43 5 v' (n + 1) (jflat js vs ++ jcells L (.slice none 0 0))) (hgr : w.grownBy w' v.ownBlock) (hL : L.after = []) :
    ∃ vs', w'.ownsRow M 43 5 v' (n + 1) (jflat (js ++ [L]) vs') ∧ Afters w' vs' ((js ++ [L]).map Jb.after) := by
  refine ⟨vs ++ [.slice none 0 0], ?_, ?_⟩
  · rw [jflat_snoc (by have := haft.1; simpa using this.symm)]
    exact hnew
  · rw [List.map_append]
    refine (haft.mono fun v l h => h.kept hown (by decide) hgr).snoc ?_
    rw [hL]
    exact World.ownsRow_nil _ _ _ _
theorem all_more {l : List Int} {x : Int} (h : ∀ y ∈ l, 0 ≤ y ∧ y ≤ 10000) (h0 : 0 ≤ x) (h1 : x ≤ 10000) : ∀ y ∈ l ++ [x], 0 ≤ y ∧ y ≤ 10000 := fun y hy => by
  rcases List.mem_append.1 hy with hy | hy
  · exact h y hy
  · obtain rfl : y = x := by simpa using hy
    exact ⟨h0, h1⟩
/-- Two rows of numbers in the making, k1 and k2 long. -/
structure RowsB (W0 V : World) (k1 k2 : Nat) (va vb : Value) (f s : List Int) : Prop where
  hf : V.ownsRow W0.heap.size 3 1 va k1 (f.map (Value.int .i64))
  hs : V.ownsRow W0.heap.size 3 1 vb k2 (s.map (Value.int .i64))
  ne : ∀ g, va.ownBlock = some g → vb.ownBlock ≠ some g
  hb : Below W0.heap.size W0 V
/-- A number that is to be appended, in a block of its own. -/
structure SrcB (V : World) (va vb : Value) (b : Nat) (x : Int) : Prop where
  blk : Blk V b 3 #[.int .i64 x]
  na : va.ownBlock ≠ some b
  nb : vb.ownBlock ≠ some b
theorem SrcB.news {V : World} {va vb : Value} {b : Nat} {x : Int} (h : SrcB V va vb b x) : ∀ j u, ([.int .i64 x] : List Value)[j]? = some u → V.cell? ((⟨b, 0, none⟩ : Addr).add j) = some u := fun j u hj => by
  have := h.blk.cell j
  rw [Addr.add_lit, Nat.zero_add, this, ← hj, List.getElem?_toArray]
theorem RowsB.size {W0 V : World} {k1 k2 : Nat} {va vb : Value} {f s : List Int} (h : RowsB W0 V k1 k2 va vb f s) : W0.heap.size ≤ V.heap.size := h.hb.size
theorem RowsB.drew {W0 V : World} {k1 k2 : Nat} {va vb : Value} {f s : List Int} (h : RowsB W0 V k1 k2 va vb f s) : RowsB W0 V.drew k1 k2 va vb f s := ⟨h.hf.drew, h.hs.drew, h.ne, h.hb.drew⟩
theorem RowsB.later {W0 V V' : World} {k1 k2 : Nat} {va vb : Value} {f s : List Int} (h : RowsB W0 V k1 k2 va vb f s) (hb : Below V.heap.size V V') : RowsB W0 V' k1 k2 va vb f s := ⟨own_later h.hf hb, own_later h.hs hb, h.ne, h.hb.trans (hb.mono h.hb.size)⟩
theorem RowsB.build {W0 V : World} {k1 k2 : Nat} {va vb : Value} {f s : List Int} (h : RowsB W0 V k1 k2 va vb f s) (x : Int) :
    RowsB W0 (V.alloc (.cells #[.int .i64 x] 3)) k1 k2 va vb f s ∧ SrcB (V.alloc (.cells #[.int .i64 x] 3)) va vb V.heap.size x :=
  ⟨⟨h.hf.alloc _, h.hs.alloc _, h.ne, h.hb.alloc h.hb.size _⟩, Blk.new V 3 _, fun e => absurd (h.hf.lt _ e).2 (Nat.lt_irrefl _), fun e => absurd (h.hs.lt _ e).2 (Nat.lt_irrefl _)⟩
theorem SrcB.build {V : World} {va vb : Value} {b : Nat} {x : Int} (h : SrcB V va vb b x) (o : Obj) : SrcB (V.alloc o) va vb b x := ⟨h.blk.later ((Below.refl _ _).alloc (Nat.le_refl _) o), h.na, h.nb⟩
section
variable {W0 V V' : World} {k1 k2 g cap b : Nat} {va vb : Value} {f s : List Int} {x y : Int}
theorem RowsB.app1 (h : RowsB W0 V k1 k2 va vb f s) (hown : V'.ownsRow W0.heap.size 3 1 (.slice (some ⟨g, 0, none⟩) (k1 + 1) cap) (k1 + 1) (f.map (Value.int .i64) ++ [.int .i64 x])) (hgr : V.grownBy V' va.ownBlock) (hat : va.ownBlock = some g ∨ g = V.heap.size) :
    RowsB W0 V' (k1 + 1) k2 (.slice (some ⟨g, 0, none⟩) (k1 + 1) cap) vb (f ++ [x]) s where
  hf := by rw [List.map_append]; exact hown
  hs := h.hs.kept hgr (by
    cases hv : vb.ownBlock with
    | none => exact .inl rfl
    | some gb => exact .inr fun he => h.ne gb he.symm hv)
  ne := fun g' hg => by
    have e : g = g' := by injection hg
    subst e
    rcases hat with h1 | h1
    · exact h.ne g h1
    · intro he
      have := (h.hs.lt g he).2
      rw [h1] at this
      exact absurd this (Nat.lt_irrefl _)
  hb := h.hb.grown hgr h.hb.size (fun q hq => (h.hf.lt q hq).1)
theorem RowsB.app2 (h : RowsB W0 V k1 k2 va vb f s) (hown : V'.ownsRow W0.heap.size 3 1 (.slice (some ⟨g, 0, none⟩) (k2 + 1) cap) (k2 + 1) (s.map (Value.int .i64) ++ [.int .i64 x])) (hgr : V.grownBy V' vb.ownBlock) (hat : vb.ownBlock = some g ∨ g = V.heap.size) :
    RowsB W0 V' k1 (k2 + 1) va (.slice (some ⟨g, 0, none⟩) (k2 + 1) cap) f (s ++ [x]) where
  hf := h.hf.kept hgr (by
    cases hv : va.ownBlock with
    | none => exact .inl rfl
    | some ga => exact .inr fun he => h.ne ga hv he.symm)
  hs := by rw [List.map_append]; exact hown
  ne := fun g' hg he => by
    have e : g = g' := by injection he
    subst e
    rcases hat with h1 | h1
    · exact h.ne g hg h1
    · have := (h.hf.lt g hg).2
      rw [h1] at this
      exact absurd this (Nat.lt_irrefl _)
  hb := h.hb.grown hgr h.hb.size (fun q hq => (h.hs.lt q hq).1)
theorem blk_grown {row : Option Nat} {t : Nat} {cs : Array Value} (h : Blk V b t cs) (hgr : V.grownBy V' row) (hr : row ≠ some b) : Blk V' b t cs :=
  (hgr.block b h.lt (fun e => hr e.symm)).trans h
theorem SrcB.app1 (h : SrcB V va vb b x) (hgr : V.grownBy V' va.ownBlock) (hat : va.ownBlock = some g ∨ g = V.heap.size) : SrcB V' (.slice (some ⟨g, 0, none⟩) (k1 + 1) cap) vb b x where
  blk := blk_grown h.blk hgr h.na
  na := fun e => by
    have e2 : g = b := by injection e
    subst e2
    rcases hat with h1 | h1
    · exact h.na h1
    · have := h.blk.lt
      omega
  nb := h.nb
theorem SrcB.app2 (h : SrcB V va vb b x) (hgr : V.grownBy V' vb.ownBlock) (hat : vb.ownBlock = some g ∨ g = V.heap.size) : SrcB V' va (.slice (some ⟨g, 0, none⟩) (k2 + 1) cap) b x where
  blk := blk_grown h.blk hgr h.nb
  na := h.na
  nb := fun e => by
    have e2 : g = b := by injection e
    subst e2
    rcases hat with h1 | h1
    · exact h.nb h1
    · have := h.blk.lt
      omega
end
end Go.Proofs.Ytnfcigbiebbjdaa
