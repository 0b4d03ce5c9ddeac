/-
  The seat's texts Kit Kit2 Ints Ints2 in one: the contracts of the functions that the law reaches, and the plain laws that they rest on.
  Conditions: as each theorem states them.
-/
import Derived.WalkKit
import Derived.WalkSpells
import Derived.WalkLawsBesides
import Derived.BigQuiet
import Derived.Lib.Hide
import Derived.OwnWalk
import Derived.StillTail
import Derived.Laws.AppendOwn
namespace Go.Proofs.YtpklcjbdmikbdaaGreat
open Go.RowKit

theorem bcell {W w1 : World} (hb : Below W.heap.size W w1) : (∀ b o, b < W.heap.size → w1.cell? ⟨b, o, none⟩ = W.cell? ⟨b, o, none⟩) ∧ (∀ b o, b < W.heap.size → w1.frozen? ⟨b, o, none⟩ = W.frozen? ⟨b, o, none⟩) :=
  ⟨fun b o h => hb.cell (p := ⟨b, o, none⟩) h, fun b o h => hb.frozen (p := ⟨b, o, none⟩) h⟩

/-- Block g is just these cells. -/
def Blk (w : World) (g : Nat) (t : TypeId) (cs : Array Value) : Prop := w.heap[g]? = some (.cells cs t (0, 0))
section
variable {w w' : World} {g : Nat} {t : TypeId} {cs : Array Value}
theorem Blk.lt (h : Blk w g t cs) : g < w.heap.size := by
  rcases Nat.lt_or_ge g w.heap.size with hlt | hge
  · exact hlt
  · unfold Blk at h; rw [Array.getElem?_eq_none hge] at h; cases h
theorem Blk.cell (h : Blk w g t cs) (i : Nat) : w.cell? ⟨g, i, none⟩ = cs[i]? := cell_of_row w g i cs t (0, 0) h
theorem Blk.frozen (h : Blk w g t cs) (i : Nat) : w.frozen? ⟨g, i, none⟩ = false := by
  unfold Blk at h
  simp [World.frozen?, h]
theorem Blk.new (w : World) (t : TypeId) (cs : Array Value) : Blk (w.alloc (.cells cs t)) w.heap.size t cs := heap_alloc_new w _
theorem Blk.drew (h : Blk w g t cs) : Blk w.drew g t cs := h
theorem Blk.drewN (h : Blk w g t cs) (n : Nat) : Blk (w.drewN n) g t cs := h
theorem Blk.alloc (h : Blk w g t cs) (o : Obj) : Blk (w.alloc o) g t cs := (Below.heap_alloc w o g h.lt).trans h
theorem Blk.set_ (h : Blk w g t cs) (i : Nat) (u : Value) : Blk (w.setCell ⟨g, i, none⟩ u) g t (cs.setIfInBounds i u) := by
  unfold Blk at h ⊢
  simp [World.setCell, Array.getElem?_modify, h]
theorem Blk.far (h : Blk w g t cs) {p : Addr} (hp : g ≠ p.block) (u : Value) : Blk (w.setCell p u) g t cs := (Below.heap_setCell w p u g hp).trans h
theorem Blk.below {B : Nat} (h : Blk w g t cs) (hb : Below B w w') (hg : g < B) : Blk w' g t cs := (hb.block g hg).trans h
theorem Blk.later (h : Blk w g t cs) (hb : Below w.heap.size w w') : Blk w' g t cs := h.below hb h.lt
theorem Blk.grown {row : Option Nat} (h : Blk w g t cs) (hb : w.grownBy w' row) (hg : some g ≠ row) : Blk w' g t cs := (hb.block g h.lt hg).trans h
theorem Blk.ne_ {g' : Nat} {t' : TypeId} {cs' : Array Value} (h : Blk w g t cs) (h' : Blk w g' t' cs') (hne : t ≠ t') : g ≠ g' := by
  rintro rfl
  unfold Blk at h h'
  rw [h] at h'
  injection h' with h'
  injection h' with _ ht
  exact hne ht
end

/-- A world that is, below the heap's end, as w is. -/
def Later (w : World) : Type := { x : World // Below w.heap.size w x }
instance (w : World) : Inhabited (Later w) := ⟨⟨w, Below.refl _ w⟩⟩

section
variable {P : Program}

theorem wp_region_later {id : Nat} {Q : Exit → Act → World → Prop} {a : Act} {w : World} {l : List Oper} (hm : P.follows .mixedOrders = true) (hB : Region.lexB .any l.toArray = true)
    (h : wpQuiet P l.toArray (fun w' => ∃ x : Later w, w' = x.val) (fun a' => ∀ w', (∃ x : Later w, w' = x.val) → Q .normal a' w') l a) : (Code.region id l.toArray true).wp P Q a w :=
  wp_region_quiet (C := fun w' => ∃ x : Later w, w' = x.val) hm hB ⟨⟨_, (Below.refl _ w).drew⟩, rfl⟩ (by simpa using h)

/-! A region whose first operations are quiet in a class of worlds, and whose last ones come in one order. -/
section
variable {ops : Array Oper} {md : Region.Mode} {C : World → Prop}
def headQ (P : Program) (md : Region.Mode) (ops : Array Oper) (C : World → Prop) (n : Nat) (L : Array Bool → Act → Prop) : Nat → Array Bool → Act → Prop
  | 0, listed, a => L listed a
  | f + 1, listed, a => Region.ready md ops listed ≠ [] ∧ ∀ i ∈ Region.ready md ops listed, i < n ∧ qOp P ops C i (headQ P md ops C n L f (listed.setIfInBounds i true)) a

theorem any_of_headQ {n g : Nat} {L : Array Bool → Act → Prop} {Q' : Exit → Act → World → Prop} (hL : ∀ listed a w, C w → L listed a → wpAny P md ops Q' g listed a w) :
    ∀ (f : Nat) (listed : Array Bool) (a : Act) (w : World), C w → headQ P md ops C n L f listed a → wpAny P md ops Q' (f + g) listed a w
  | 0, _, _, _, hw, h => by rw [Nat.zero_add]; exact hL _ _ _ hw h
  | f + 1, _, _, _, hw, h => by
    rw [show f + 1 + g = (f + g) + 1 by omega]
    exact ⟨fun h0 => absurd h0 h.1, fun i hi => wpOp_of_qOp hw (fun a' w' hw' h' => any_of_headQ hL f _ a' w' hw' h') (h.2 i hi).2⟩

theorem headQ_first {n i : Nat} {oi : Oper} {v : Value} {L : Array Bool → Act → Prop} (hi : ops[i]? = some oi) (hsel : ∀ (j : Nat) (o : Oper) cs b, ops[j]? = some o → o.op ≠ .select cs b)
    (hs : Region.sinkB md ops n = true) (hc : Region.chainB md ops n = true) (hn : n < ops.size) (hin : i < n)
    (hdone : ∀ listed a, L listed a → ∀ j ∈ Region.ready md ops listed, n ≤ j) :
    ∀ (f : Nat) (listed : Array Bool) (a : Act), HeadInv md ops n listed →
      (∀ j oj, ops[j]? = some oj → j ≠ i → listed.getD j true = false → (∀ e ∈ oj.after, Region.binds md e = true → e.on ≠ i) → oi.apart ops oj = true) →
      i ∈ Region.ready md ops listed → YieldsIn P ops C oi v a →
      headQ P md ops C n L f (listed.setIfInBounds i true) (a.put oi.dst v) → headQ P md ops C n L (f + 1) listed a := by
  intro f
  have low : ∀ listed, HeadInv md ops n listed → i ∈ Region.ready md ops listed → ∀ j ∈ Region.ready md ops listed, j < n := fun listed inv hr j hj => by
    rcases Nat.lt_or_ge j n with h | h
    · exact h
    · exact absurd hj (tail_waits hs hc hn inv _ i rfl hin (mem_ready.1 hr).1 j h)
  induction f with
  | zero =>
    intro listed a inv _ hr hy H
    refine ⟨fun h => (by rw [h] at hr; cases hr), fun j hj => ?_⟩
    have hjn := low listed inv hr j hj
    refine ⟨hjn, ?_⟩
    by_cases hji : j = i
    · subst hji; exact hy.qOp hi H
    · have := hdone _ _ H j (ready_mono hj hji)
      omega
  | succ f ih =>
    intro listed a inv hfree hr hy H
    have hun := (mem_ready.1 hr).1
    refine ⟨fun h => (by rw [h] at hr; cases hr), fun j hj => ?_⟩
    have hjn := low listed inv hr j hj
    refine ⟨hjn, ?_⟩
    by_cases hji : j = i
    · subst hji; exact hy.qOp hi H
    · have h1 := (H.2 j (ready_mono hj hji)).2
      obtain ⟨hjun, oj, hoj, hall⟩ := mem_ready.1 hj
      have hnot : ∀ e ∈ oj.after, Region.binds md e = true → e.on ≠ i := fun e he hb heq => by
        have h1 := hall e he hb
        rw [heq, getD_both hun] at h1
        cases h1
      have h2 := qOp_put hoj (hfree j oj hoj hji hjun hnot) (fun cs b => hsel i oi cs b hi) (fun cs b => hsel j oj cs b hoj) hy h1
      have hfree' : ∀ k ok, ops[k]? = some ok → k ≠ i → (listed.setIfInBounds j true).getD k true = false →
          (∀ e ∈ ok.after, Region.binds md e = true → e.on ≠ i) → oi.apart ops ok = true := fun k ok hk hki hun hno => by
        refine hfree k ok hk hki ?_ hno
        by_cases hjk : j = k
        · subst hjk; exact hjun
        · rw [getD_set_ne true hjk] at hun; exact hun
      refine qOp_mono (fun a' h3 => ih (listed.setIfInBounds j true) a' (inv.set hj hjn) hfree' (ready_mono hr (Ne.symm hji)) h3.1 ?_) h2
      rw [Array.setIfInBounds_comm _ _ hji]
      exact h3.2

theorem headQ_lex {n g : Nat} {Lq : Act → Prop} (hsel : Region.noSelect ops = true) (hs : Region.sinkB md ops n = true) (hc : Region.chainB md ops n = true) (hn : n < ops.size) :
    ∀ (l : List Oper) (k : Nat) (listed : Array Bool) (a : Act), (∀ j, j < l.length → l[j]? = ops[k + j]?) → k + l.length = n → HeadInv md ops n listed →
    Region.lexHead md ops g l.length k listed = true → wpQuiet P ops C Lq l a →
    headQ P md ops C n (fun listed' a' => Region.seqB md ops g n listed' = true ∧ Lq a') l.length listed a
  | [], k, listed, a, _, hk, _, hB, h => by
    have : k = n := by simpa using hk
    subst this
    exact ⟨by simpa [Region.lexHead] using hB, h⟩
  | o :: l, k, listed, a, hl, hk, inv, hB, h => by
    have h0 : ops[k]? = some o := by simpa using (hl 0 (by simp)).symm
    simp only [List.length_cons, Region.lexHead, Bool.and_eq_true] at hB
    obtain ⟨⟨hr, hf⟩, hB'⟩ := hB
    have hkn : k < n := by simp only [List.length_cons] at hk; omega
    have hr' : k ∈ Region.ready md ops listed := by simpa using hr
    have hst : qOp P ops C k (wpQuiet P ops C Lq l) a := by unfold qOp; simp only [h0]; exact h
    obtain ⟨v, hy, hK⟩ := yieldsIn_of_qOp h0 hst
    exact headQ_first h0 (Region.noSelect_spec hsel) hs hc hn hkn (fun listed' a' hL => seqB_ready hL.1) l.length listed a inv (Region.free_spec h0 hf) hr' hy
      (headQ_lex hsel hs hc hn l (k + 1) _ _ (fun j hj => by have := hl (j + 1) (by simp; omega); simpa [Nat.add_assoc, Nat.add_comm 1 j] using this) (by simp only [List.length_cons] at hk; omega) (inv.set hr' hkn) hB' hK)

theorem wp_region_quiet_tail {id : Nat} {Q : Exit → Act → World → Prop} {a : Act} {w : World} {l : List Oper} (n : Nat) (hm : P.follows .mixedOrders = true) (hB : Region.lexTailB .any l.toArray n = true) (hC : C { w with drawn := w.drawn + 1 })
    (h : wpQuiet P l.toArray C (fun a' => ∀ w', C w' → wpList P l.toArray Q (l.drop n) a' w') (l.take n) a) : (Code.region id l.toArray true).wp P Q a w := by
  simp only [Region.lexTailB, Bool.and_eq_true, decide_eq_true_eq] at hB
  obtain ⟨⟨⟨⟨hsel, hn⟩, hs⟩, hc⟩, hlex⟩ := hB
  have hn' : n < l.length := by simpa using hn
  have htl : (l.take n).length = n := by simp; omega
  have hdl : (l.drop n).length = l.toArray.size - n := by simp
  have inv0 : HeadInv .any l.toArray n (Array.replicate l.toArray.size false) :=
    ⟨by simp, fun j oj _ hl => (by rw [getD_replicate_false] at hl; cases hl), fun t _ ht => getD_in (by simpa using ht) (getD_replicate_false _ _)⟩
  have H := headQ_lex (md := .any) (g := l.toArray.size - n) hsel hs hc hn (l.take n) 0 _ a (fun j hj => by
    have hj' : j < n := by rw [htl] at hj; exact hj
    simp [hj']) (by simpa using htl) inv0 (by rw [htl]; exact hlex) h
  refine wp_region_any hm ?_
  have := any_of_headQ (Q' := Q) (g := l.toArray.size - n) (fun listed a' w' hw' hL => by
    have := wpAny_of_seq (md := .any) (Q' := Q) (l.drop n) n listed a' w' (fun j => by simp [List.getElem?_drop]) (by rw [hdl]; exact hL.1) (hL.2 w' hw')
    rwa [hdl] at this) _ _ _ _ hC H
  rw [htl, show n + (l.toArray.size - n) = l.toArray.size by omega] at this
  exact this

theorem wp_region_later_tail {id : Nat} {Q : Exit → Act → World → Prop} {a : Act} {w : World} {l : List Oper} (n : Nat) (hm : P.follows .mixedOrders = true) (hB : Region.lexTailB .any l.toArray n = true)
    (h : wpQuiet P l.toArray (fun w' => ∃ x : Later w, w' = x.val) (fun a' => ∀ w', (∃ x : Later w, w' = x.val) → wpList P l.toArray Q (l.drop n) a' w') (l.take n) a) : (Code.region id l.toArray true).wp P Q a w :=
  wp_region_quiet_tail (C := fun w' => ∃ x : Later w, w' = x.val) n hm hB ⟨⟨_, (Below.refl _ w).drew⟩, rfl⟩ h
end

theorem later_cell {w : World} (x : Later w) (b o : Nat) (h : b < w.heap.size) : x.val.cell? ⟨b, o, none⟩ = w.cell? ⟨b, o, none⟩ := x.property.cell (p := ⟨b, o, none⟩) h
theorem later_frozen {w : World} (x : Later w) (b o : Nat) (h : b < w.heap.size) : x.val.frozen? ⟨b, o, none⟩ = w.frozen? ⟨b, o, none⟩ := x.property.frozen (p := ⟨b, o, none⟩) h

/-- A contract that ends in 'Below', met in a later world. -/
theorem later_call {f : FuncId} {args : Array Value} {w : World} {x : Later w} {v : Value}
    (h : Calls P f args x.val fun e w' => e = .returned v ∧ Below x.val.heap.size x.val w') : Calls P f args x.val fun e w'' => e = .returned v ∧ ∃ y : Later w, w'' = y.val :=
  h.mono fun _ w' ⟨he, hb⟩ => ⟨he, ⟨w', x.property.trans (hb.mono x.property.size)⟩, rfl⟩
theorem later_same {f : FuncId} {args : Array Value} {w : World} {x : Later w} {v : Value}
    (h : Calls P f args x.val fun e w' => e = .returned v ∧ x.val = w') : Calls P f args x.val fun e w'' => e = .returned v ∧ ∃ y : Later w, w'' = y.val :=
  h.mono fun _ _ ⟨he, hb⟩ => ⟨he, x, hb.symm⟩
end
end Go.Proofs.YtpklcjbdmikbdaaGreat
namespace Go.Proofs.YtpklcjbdmikbdaaGreat
open Go.RowKit

theorem bodyPost_cell {P : Program} {fn : Func} {R : Ending → World → Prop} {tmps : Array Value} {W : World} (g : Nat) (t : TypeId) (cs : Array Value) (v : Value)
    (hE : Blk W g t cs) (hr : ∀ W' : World, (∀ i, W'.cell? ⟨g, i, none⟩ = cs[i]?) → (results fn tmps).run P W' = .ok v W') (hR : R (.returned v) W) : bodyPost P fn R .ret ⟨tmps, []⟩ W :=
  bodyPost_ret (hr W hE.cell) rfl hR

theorem below_drewN {B : Nat} {a w : World} (h : Below B a w) (n : Nat) : Below B a (w.drewN n) := ⟨h.os, h.tape, h.output, h.size, h.block⟩
theorem only_drewN {a w : World} {row : Option Nat} (h : a.grownBy w row) (n : Nat) : a.grownBy (w.drewN n) row := ⟨h.os, h.tape, h.output, h.size, h.block⟩
theorem only_drew {a w : World} {row : Option Nat} (h : a.grownBy w row) : a.grownBy w.drew row := ⟨h.os, h.tape, h.output, h.size, h.block⟩
theorem only_alloc {a w : World} {row : Option Nat} (h : a.grownBy w row) (o : Obj) : a.grownBy (w.alloc o) row :=
  ⟨h.os, h.tape, h.output, Nat.le_trans h.size (by simp), fun i hi hne => (Below.heap_alloc w o i (Nat.lt_of_lt_of_le hi h.size)).trans (h.block i hi hne)⟩
theorem only_setCell {a w : World} {g : Nat} (h : a.grownBy w (some g)) {p : Addr} (hp : p.block = g ∨ a.heap.size ≤ p.block) (u : Value) : a.grownBy (w.setCell p u) (some g) :=
  ⟨h.os, h.tape, h.output, by simpa [World.setCell] using h.size, fun i hi hne => (Below.heap_setCell w p u i (by
    rintro rfl
    rcases hp with hp | hp
    · exact hne (by rw [hp])
    · omega)).trans (h.block i hi hne)⟩
theorem only_of_below {a w : World} (h : Below a.heap.size a w) (row : Option Nat) : a.grownBy w row := ⟨h.os, h.tape, h.output, h.size, fun i hi _ => h.block i hi⟩
theorem only_trans_below {a w w' : World} {row : Option Nat} (h : a.grownBy w row) (hb : Below w.heap.size w w') : a.grownBy w' row :=
  ⟨hb.os.trans h.os, hb.tape.trans h.tape, hb.output.trans h.output, Nat.le_trans h.size hb.size, fun i hi hn => (hb.block i (Nat.lt_of_lt_of_le hi h.size)).trans (h.block i hi hn)⟩
/-- From B on the block that may have been written. -/
theorem below_of_only {B g : Nat} {a w : World} (h : a.grownBy w (some g)) (hg : B ≤ g) (hB : B ≤ a.heap.size) : Below B a w :=
  ⟨h.os, h.tape, h.output, h.size, fun k hk => h.block k (by omega) (by simp; omega)⟩
end Go.Proofs.YtpklcjbdmikbdaaGreat
namespace Go.Proofs.YtpklcjbdmikbdaaGreat
open Go.RowKit

def rowc (l : List Int) : Array Value := (l.map (Value.int .i64)).toArray
theorem rowc_at {l : List Int} {i : Nat} {x : Int} (h : l[i]? = some x) : (rowc l)[i]? = some (.int .i64 x) := by
  unfold rowc
  rw [List.getElem?_toArray, List.getElem?_map, h]
  rfl
theorem rowc_size (l : List Int) : (rowc l).size = l.length := by simp [rowc]
theorem rowc_set (l : List Int) (i : Nat) (x : Int) : (rowc l).setIfInBounds i (.int .i64 x) = rowc (l.set i x) := by
  unfold rowc
  rw [List.setIfInBounds_toArray, List.map_set]
theorem rowc_back (l : List Int) (rest : Array Value) {i : Nat} (h : i < l.length) : (rowc l ++ rest)[i]? = (rowc l)[i]? := Array.getElem?_append_left (by rw [rowc_size]; exact h)
/-- Block R begins with a row. -/
def RowB (w : World) (R : Nat) (l : List Int) : Prop := ∃ rest : Array Value, Blk w R 3 (rowc l ++ rest)
theorem RowB.of {w : World} {R : Nat} {l : List Int} (h : Blk w R 3 (rowc l)) : RowB w R l := ⟨#[], by rw [Array.append_empty]; exact h⟩
theorem RowB.at_ {w : World} {R i : Nat} {l : List Int} {x : Int} (h : RowB w R l) (hx : l[i]? = some x) : w.cell? ⟨R, i, none⟩ = some (.int .i64 x) := by
  obtain ⟨rest, h⟩ := h
  exact (Blk.cell h i).trans ((rowc_back l rest (List.getElem?_eq_some_iff.1 hx).1).trans (rowc_at hx))
theorem RowB.set_ {w : World} {R : Nat} {l : List Int} (h : RowB w R l) (i : Nat) (x : Int) : RowB (w.setCell ⟨R, i, none⟩ (.int .i64 x)) R (l.set i x) := by
  obtain ⟨rest, h⟩ := h
  have h1 := Blk.set_ h i (.int .i64 x)
  by_cases hi : i < l.length
  · rw [Array.setIfInBounds_append_left (by rw [rowc_size]; exact hi), rowc_set] at h1
    exact ⟨rest, h1⟩
  · rw [Array.setIfInBounds_append_right (by rw [rowc_size]; omega)] at h1
    rw [List.set_eq_of_length_le (by omega)]
    exact ⟨_, h1⟩
theorem RowB.later {w w' : World} {R : Nat} {l : List Int} (h : RowB w R l) (hb : Below w.heap.size w w') : RowB w' R l := by
  obtain ⟨rest, h⟩ := h
  exact ⟨rest, Blk.later h hb⟩
theorem RowB.frozen {w : World} {R : Nat} {l : List Int} (h : RowB w R l) (i : Nat) : w.frozen? ⟨R, i, none⟩ = false := by
  obtain ⟨rest, h⟩ := h
  exact Blk.frozen h i
theorem RowB.lt {w : World} {R : Nat} {l : List Int} (h : RowB w R l) : R < w.heap.size := by
  obtain ⟨rest, h⟩ := h
  exact Blk.lt h
theorem RowB.far {w : World} {R : Nat} {l : List Int} (h : RowB w R l) {p : Addr} (hp : R ≠ p.block) (u : Value) : RowB (w.setCell p u) R l := by
  obtain ⟨rest, h⟩ := h
  exact ⟨rest, Blk.far h hp u⟩
theorem RowB.of_own {w : World} {base R n c : Nat} {l : List Int} (h : w.ownsRow base 3 1 (.slice (some ⟨R, 0, none⟩) n c) n (l.map (Value.int .i64))) : RowB w R l := by
  obtain ⟨hl, h2⟩ := h
  rcases h2 with ⟨h2, _⟩ | ⟨g, cap, cur, h2, h3, h4, h5, h6, h7, h8⟩
  · cases h2
  · cases h2
    refine ⟨(cur.toList.drop n).toArray, ?_⟩
    unfold Blk
    rw [h4]
    congr 2
    apply Array.toList_inj.1
    have e : rowc l = (l.map (Value.int .i64)).toArray := rfl
    rw [e, ← h8]
    simp

/-- A slice that reads as a list of integers, wherever it starts. -/
def RowI (w : World) (A : Option Addr) (n : Nat) (l : List Int) : Prop :=
  l.length = n ∧ (0 < n → ∃ a : Addr, A = some a ∧ a.block < w.heap.size ∧ ∀ (k : Nat) (v : Int), l[k]? = some v → w.cell? (a.add k) = some (.int .i64 v))
theorem add_block (a : Addr) (k : Nat) : (a.add k).block = a.block := by unfold Addr.add; split <;> rfl
theorem RowI.later {w w' : World} {A : Option Addr} {n : Nat} {l : List Int} (h : RowI w A n l) (hb : Below w.heap.size w w') : RowI w' A n l :=
  ⟨h.1, fun hn => by
    obtain ⟨a, e, hg, hc⟩ := h.2 hn
    exact ⟨a, e, Nat.lt_of_lt_of_le hg hb.size, fun k v hk => (hb.cell (p := a.add k) (by rw [add_block]; exact hg)).trans (hc k v hk)⟩⟩
theorem RowI.at_ {w : World} {A : Option Addr} {n k : Nat} {l : List Int} (h : RowI w A n l) (hk : k < n) : ∃ a : Addr, A = some a ∧ a.block < w.heap.size ∧ w.cell? (a.add k) = some (.int .i64 (l.getD k 0)) := by
  obtain ⟨g, e, hg, hc⟩ := h.2 (by omega)
  have hl : k < l.length := by have := h.1; omega
  refine ⟨g, e, hg, hc k _ ?_⟩
  rw [List.getD_eq_getElem?_getD, List.getElem?_eq_getElem hl]
  rfl
theorem RowI.nil (w : World) (A : Option Addr) : RowI w A 0 [] := ⟨rfl, fun h => absurd h (by omega)⟩
theorem RowI.of_row {w : World} {R : Nat} {l : List Int} (h : RowB w R l) {n : Nat} (hn : l.length = n) : RowI w (some ⟨R, 0, none⟩) n l :=
  ⟨hn, fun _ => ⟨_, rfl, h.lt, fun k v hk => by
    have := h.at_ hk
    rw [Addr.add_lit, Nat.zero_add]
    exact this⟩⟩
/-- The first ones of a row are a row. -/
theorem RowI.take {w : World} {A : Option Addr} {n m : Nat} {l : List Int} (h : RowI w A n l) (hm : m ≤ n) : RowI w A m (l.take m) :=
  ⟨by rw [List.length_take, h.1]; omega, fun h0 => by
    obtain ⟨a, e, hg, hc⟩ := h.2 (by omega)
    refine ⟨a, e, hg, fun k v hk => hc k v ?_⟩
    rw [List.getElem?_take] at hk
    split at hk
    · exact hk
    · simp at hk⟩
theorem own_rowI {w : World} {base : Nat} {A : Option Addr} {n m c : Nat} {l : List Int} (h : w.ownsRow base 3 1 (.slice A m c) n (l.map (Value.int .i64))) : RowI w A m l := by
  obtain ⟨hl, h⟩ := h
  simp only [List.length_map, Nat.mul_one] at hl
  rcases h with ⟨h1, h2⟩ | ⟨g, cap, cur, h1, h2, h3, h4, h5, h6, h7⟩
  · injection h1 with e1 e2 e3
    subst e1 e2
    exact ⟨by omega, fun h => absurd h (by omega)⟩
  · injection h1 with e1 e2 e3
    subst e1 e2
    refine ⟨hl, fun _ => ⟨⟨g, 0, none⟩, rfl, (Array.getElem?_eq_some_iff.1 h3).1, fun k v hk => ?_⟩⟩
    have hkl : k < l.length := (List.getElem?_eq_some_iff.1 hk).1
    rw [Addr.add_lit, Nat.zero_add, cell_of_row w g k cur 3 (0, 0) h3]
    have := congrArg (fun x => x[k]?) h7
    simp only [List.getElem?_map, hk, Option.map_some, List.getElem?_take] at this
    rw [if_pos (by omega)] at this
    rw [← Array.getElem?_toList]
    exact this
end Go.Proofs.YtpklcjbdmikbdaaGreat
namespace Go.Proofs.YtpklcjbdmikbdaaGreat
open Go.RowKit

/-- A slice that reads as a list of integers and starts at the head of a block. -/
def RowH (w : World) (A : Option Addr) (n : Nat) (l : List Int) : Prop :=
  l.length = n ∧ (0 < n → ∃ g, A = some ⟨g, 0, none⟩ ∧ g < w.heap.size ∧ ∀ (k : Nat) (v : Int), l[k]? = some v → w.cell? ⟨g, k, none⟩ = some (.int .i64 v))
theorem RowH.later {w w' : World} {A : Option Addr} {n : Nat} {l : List Int} (h : RowH w A n l) (hb : Below w.heap.size w w') : RowH w' A n l :=
  ⟨h.1, fun hn => by
    obtain ⟨g, e, hg, hc⟩ := h.2 hn
    exact ⟨g, e, Nat.lt_of_lt_of_le hg hb.size, fun k v hk => (hb.cell (p := ⟨g, k, none⟩) hg).trans (hc k v hk)⟩⟩
theorem RowH.grown {w w' : World} {A : Option Addr} {n : Nat} {l : List Int} {r : Nat} (h : RowH w A n l) (hb : w.grownBy w' (some r)) (hr : ∀ g, A = some ⟨g, 0, none⟩ → g ≠ r) : RowH w' A n l :=
  ⟨h.1, fun hn => by
    obtain ⟨g, e, hg, hc⟩ := h.2 hn
    refine ⟨g, e, Nat.lt_of_lt_of_le hg hb.size, fun k v hk => ?_⟩
    have hbk := hb.block g hg (by have := hr g e; simp; exact this)
    have h0 := hc k v hk
    simp only [World.cell?] at h0 ⊢
    rw [hbk]
    exact h0⟩
theorem RowH.at_ {w : World} {A : Option Addr} {n k : Nat} {l : List Int} (h : RowH w A n l) (hk : k < n) : ∃ g, A = some ⟨g, 0, none⟩ ∧ g < w.heap.size ∧ w.cell? ⟨g, k, none⟩ = some (.int .i64 (l.getD k 0)) := by
  obtain ⟨g, e, hg, hc⟩ := h.2 (by omega)
  have hl : k < l.length := by have := h.1; omega
  refine ⟨g, e, hg, hc k _ ?_⟩
  rw [List.getD_eq_getElem?_getD, List.getElem?_eq_getElem hl]
  rfl
theorem RowH.nil (w : World) (A : Option Addr) : RowH w A 0 [] := ⟨rfl, fun h => absurd h (by omega)⟩
theorem RowH.of_row {w : World} {R : Nat} {l : List Int} (h : RowB w R l) {n : Nat} (hn : l.length = n) : RowH w (some ⟨R, 0, none⟩) n l :=
  ⟨hn, fun _ => ⟨_, rfl, h.lt, fun _ _ hk => h.at_ hk⟩⟩
theorem own_rowH {w : World} {base : Nat} {A : Option Addr} {n m c : Nat} {l : List Int} (h : w.ownsRow base 3 1 (.slice A m c) n (l.map (Value.int .i64))) : RowH w A m l := by
  obtain ⟨hl, h⟩ := h
  simp only [List.length_map, Nat.mul_one] at hl
  rcases h with ⟨h1, h2⟩ | ⟨g, cap, cur, h1, h2, h3, h4, h5, h6, h7⟩
  · injection h1 with e1 e2 e3
    subst e1 e2
    exact ⟨by omega, fun h => absurd h (by omega)⟩
  · injection h1 with e1 e2 e3
    subst e1 e2
    refine ⟨hl, fun _ => ⟨g, rfl, (Array.getElem?_eq_some_iff.1 h3).1, fun k v hk => ?_⟩⟩
    have hkl : k < l.length := (List.getElem?_eq_some_iff.1 hk).1
    rw [cell_of_row w g k cur 3 (0, 0) h3]
    have := congrArg (fun x => x[k]?) h7
    simp only [List.getElem?_map, hk, Option.map_some, List.getElem?_take] at this
    rw [if_pos (by omega)] at this
    rw [← Array.getElem?_toList]
    exact this
end Go.Proofs.YtpklcjbdmikbdaaGreat
