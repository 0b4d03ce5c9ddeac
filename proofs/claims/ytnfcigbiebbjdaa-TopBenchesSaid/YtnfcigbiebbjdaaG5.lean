/-
  The seat's texts Fresh Edge in one: the contracts of the functions that the law reaches, and the plain laws that they rest on.
  Conditions: as each theorem states them.
-/
import Derived.Test.YtnfcigbiebbjdaaG1
namespace Go.Proofs.Ytnfcigbiebbjdaa
open Go.RowKit

section
variable {P : Program} {ops : Array Oper} {md : Region.Mode} {w0 : World}

/-- What is asked of an operation that has run in the world w. -/
def Oper.growUpon (P : Program) (w : World) (v : Value) : Result Next → Prop
  | .ok (.value u) w' => w' = w ∧ u = v
  | .ok .skip w' => w' = w ∧ v = undef
  | .ok (.enter f args) w' => w' = w ∧ Calls P f args w (fun e w'' => e = .returned v ∧ Below w.heap.size w w'')
  | _ => False
/-- One value in every later world; a call only makes memory. -/
def Oper.growAt (P : Program) (o : Oper) (a : Act) (w0 : World) (v : Value) : Prop := ∀ x : Later w0, Oper.growUpon P x.val v ((execOp a.eval o).run P x.val)
/-- The operation lays a new block, its value a function of the block's number. -/
def Oper.freshAt (P : Program) (o : Oper) (a : Act) (w0 : World) (obj : Obj) (f : Nat → Value) : Prop :=
  ∀ x : Later w0, (execOp a.eval o).run P x.val = .ok (.value (f x.val.heap.size)) (x.val.alloc obj)

/-- The walk of the quiet ones, in an order of one's own. -/
def wpGrow (P : Program) (ops : Array Oper) (w0 : World) (L : Act → Prop) : List Oper → Act → Prop
  | [], a => L a
  | o :: rest, a => if Region.wanted o (yielded ops a.tmps) then ∃ v, Oper.growAt P o a w0 v ∧ wpGrow P ops w0 L rest (a.put o.dst v) else wpGrow P ops w0 L rest (a.put o.dst undef)
theorem wpGrow_nil {L : Act → Prop} {a : Act} (h : L a) : wpGrow P ops w0 L [] a := h
theorem wpGrow_step {L : Act → Prop} {a : Act} {o : Oper} {rest : List Oper}
    (h : ∀ K : Act → Prop, (∀ a, wpGrow P ops w0 L rest a → K a) → if Region.wanted o (yielded ops a.tmps) then ∃ v, Oper.growAt P o a w0 v ∧ K (a.put o.dst v) else K (a.put o.dst undef)) : wpGrow P ops w0 L (o :: rest) a :=
  h _ (fun _ h => h)

abbrev Laid := List (Nat × Obj)
/-- What the blocks hold that were laid. -/
def LaidIn (w0 : World) (F : Laid) (w : World) : Prop :=
  Below w0.heap.size w0 w ∧ (∀ x ∈ F, w0.heap.size ≤ x.1 ∧ x.1 < w.heap.size ∧ w.heap[x.1]? = some x.2) ∧ F.Pairwise (fun x y => x.1 ≠ y.1)
theorem LaidIn.grow {F : Laid} {w w' : World} (h : LaidIn w0 F w) (hb : Below w.heap.size w w') : LaidIn w0 F w' :=
  ⟨h.1.trans (hb.mono h.1.size), fun x hx => ⟨(h.2.1 x hx).1, Nat.lt_of_lt_of_le (h.2.1 x hx).2.1 hb.size, (hb.block _ (h.2.1 x hx).2.1).trans (h.2.1 x hx).2.2⟩, h.2.2⟩
theorem LaidIn.lay {F : Laid} {w : World} (h : LaidIn w0 F w) (o : Obj) : LaidIn w0 ((w.heap.size, o) :: F) (w.alloc o) := by
  have hg := h.grow ((Below.refl w.heap.size w).alloc (Nat.le_refl _) o)
  refine ⟨hg.1, fun x hx => ?_, ?_⟩
  · rcases List.mem_cons.1 hx with rfl | hx
    · exact ⟨h.1.size, by simp, heap_alloc_new w o⟩
    · exact hg.2.1 x hx
  · refine List.pairwise_cons.2 ⟨fun x hx => ?_, h.2.2⟩
    have := (h.2.1 x hx).2.1
    show w.heap.size ≠ x.1
    omega

/-- Operation number i comes up. -/
def gOp (P : Program) (ops : Array Oper) (w0 : World) (i : Nat) (K : Act → Laid → Prop) (a : Act) (F : Laid) : Prop :=
  match ops[i]? with
  | none => K a F
  | some o => if Region.wanted o (yielded ops a.tmps) then (∃ v, Oper.growAt P o a w0 v ∧ K (a.put o.dst v) F) ∨ (∃ obj f, Oper.freshAt P o a w0 obj f ∧ ∀ b, K (a.put o.dst (f b)) ((b, obj) :: F)) else K (a.put o.dst undef) F
theorem gOp_mono {i : Nat} {a : Act} {F : Laid} {K K' : Act → Laid → Prop} (h : ∀ a F, K a F → K' a F) (hh : gOp P ops w0 i K a F) : gOp P ops w0 i K' a F := by
  unfold gOp at *
  split
  · rename_i ho; simp only [ho] at hh; exact h _ _ hh
  · rename_i o ho
    simp only [ho] at hh
    split
    · rename_i hw
      simp only [hw, if_true] at hh
      rcases hh with ⟨v, h1, h2⟩ | ⟨obj, f, h1, h2⟩
      · exact .inl ⟨v, h1, h _ _ h2⟩
      · exact .inr ⟨obj, f, h1, fun b => h _ _ (h2 b)⟩
    · rename_i hw; simp only [hw] at hh; exact h _ _ hh
theorem wpOp_of_gOp {i : Nat} {a : Act} {F : Laid} {K : Act → Laid → Prop} {K' : Act → World → Prop} {Q' : Exit → Act → World → Prop} {w : World} (hI : LaidIn w0 F w) (h : ∀ a F w', LaidIn w0 F w' → K a F → K' a w')
    (hh : gOp P ops w0 i K a F) : wpOp P ops Q' i K' a w := by
  unfold gOp at hh
  unfold wpOp
  split
  · rename_i ho; simp only [ho] at hh; exact h _ _ _ hI hh
  · rename_i o ho
    simp only [ho] at hh
    split
    · rename_i hw
      simp only [hw, if_true] at hh
      refine .inl ?_
      rcases hh with ⟨v, h1, h2⟩ | ⟨obj, f, h1, h2⟩
      · have h3 := h1 ⟨w, hI.1⟩
        unfold Oper.wp
        simp only at h3
        generalize (execOp a.eval o).run P w = r at *
        cases r with
        | ok n w' =>
          cases n <;> simp only [Oper.growUpon] at h3 <;> simp only [Oper.upon]
          case value u =>
            obtain ⟨e1, e2⟩ := h3
            rw [e1, e2]
            exact h _ _ _ hI h2
          case skip =>
            obtain ⟨e1, e2⟩ := h3
            rw [e1, ← e2]
            exact h _ _ _ hI h2
          case enter f args =>
            obtain ⟨e1, hc⟩ := h3
            rw [e1]
            exact hc.mono fun e w'' ⟨he, hw''⟩ => by subst he; exact h _ _ _ (hI.grow hw'') h2
        | halt x w' => simp only [Oper.growUpon] at h3
      · have h3 := h1 ⟨w, hI.1⟩
        unfold Oper.wp
        simp only at h3
        rw [h3]
        simp only [Oper.upon]
        exact h _ _ _ (hI.lay obj) (h2 _)
    · rename_i hw; simp only [hw] at hh; exact h _ _ _ hI hh

/-- In this frame the operation leaves v in its slot. -/
def YieldsG (P : Program) (ops : Array Oper) (w0 : World) (o : Oper) (v : Value) (a : Act) : Prop :=
  (Region.wanted o (yielded ops a.tmps) = true ∧ Oper.growAt P o a w0 v) ∨ (Region.wanted o (yielded ops a.tmps) = false ∧ v = undef)
theorem YieldsG.gOp {i : Nat} {o : Oper} {v : Value} {a : Act} {F : Laid} (hi : ops[i]? = some o) (hy : YieldsG P ops w0 o v a) {K : Act → Laid → Prop} (h : K (a.put o.dst v) F) : gOp P ops w0 i K a F := by
  unfold Ytnfcigbiebbjdaa.gOp
  simp only [hi]
  rcases hy with ⟨hw, hv⟩ | ⟨hw, rfl⟩
  · simp only [hw, if_true]; exact .inl ⟨v, hv, h⟩
  · simp only [hw, Bool.false_eq_true, if_false]; exact h
theorem YieldsG.of_same {o : Oper} {v : Value} {a a' : Act} (hy : YieldsG P ops w0 o v a) (he : execOp a'.eval o = execOp a.eval o)
    (hw : Region.wanted o (yielded ops a'.tmps) = Region.wanted o (yielded ops a.tmps)) : YieldsG P ops w0 o v a' := by
  unfold YieldsG Oper.growAt at *
  rw [he, hw]
  exact hy
theorem gOp_put {j : Nat} {oi oj : Oper} {v : Value} (hj : ops[j]? = some oj) (hap : oi.apart ops oj = true)
    (hsi : ∀ cs b, oi.op ≠ .select cs b) (hsj : ∀ cs b, oj.op ≠ .select cs b) {K : Act → Laid → Prop} {a : Act} {F : Laid}
    (hy : YieldsG P ops w0 oi v a) (h : gOp P ops w0 j K (a.put oi.dst v) F) : gOp P ops w0 j (fun a' F' => YieldsG P ops w0 oi v a' ∧ K (a'.put oi.dst v) F') a F := by
  obtain ⟨h1, h2, h3⟩ := Oper.apart_spec hap
  have keep : ∀ u, YieldsG P ops w0 oi v (a.put oj.dst u) := fun u => hy.of_same (execOp_put oi hsi a oj.dst u h3) (wanted_put oi a oj.dst u h3)
  unfold gOp at *
  simp only [hj] at *
  rw [wanted_put oj a oi.dst v h1] at h
  split
  · rename_i hw
    simp only [hw, if_true] at h
    rcases h with ⟨u, hu, hn⟩ | ⟨obj, f, hu, hn⟩
    · refine .inl ⟨u, ?_, keep u, by rw [← Act.put_comm a v u h2]; exact hn⟩
      unfold Oper.growAt at *
      rwa [execOp_put oj hsj a oi.dst v h1] at hu
    · refine .inr ⟨obj, f, ?_, fun b => ⟨keep _, by rw [← Act.put_comm a v (f b) h2]; exact hn b⟩⟩
      unfold Oper.freshAt at *
      rwa [execOp_put oj hsj a oi.dst v h1] at hu
  · rename_i hw
    simp only [hw] at h
    exact ⟨keep _, by rw [← Act.put_comm a v undef h2]; exact h⟩

/-- The first n operations, in whatever order. -/
def headG (P : Program) (md : Region.Mode) (ops : Array Oper) (w0 : World) (n : Nat) (L : Array Bool → Act → Laid → Prop) : Nat → Array Bool → Act → Laid → Prop
  | 0, listed, a, F => L listed a F
  | k + 1, listed, a, F => Region.ready md ops listed ≠ [] ∧ ∀ i ∈ Region.ready md ops listed, i < n ∧ gOp P ops w0 i (headG P md ops w0 n L k (listed.setIfInBounds i true)) a F
theorem any_of_headG {n g : Nat} {L : Array Bool → Act → Laid → Prop} {Q' : Exit → Act → World → Prop} (hL : ∀ listed a F w, LaidIn w0 F w → L listed a F → wpAny P md ops Q' g listed a w) :
    ∀ (k : Nat) (listed : Array Bool) (a : Act) (F : Laid) (w : World), LaidIn w0 F w → headG P md ops w0 n L k listed a F → wpAny P md ops Q' (k + g) listed a w
  | 0, _, _, _, _, hw, h => by rw [Nat.zero_add]; exact hL _ _ _ _ hw h
  | k + 1, _, _, _, _, hw, h => by
    rw [show k + 1 + g = (k + g) + 1 by omega]
    exact ⟨fun h0 => absurd h0 h.1, fun i hi => wpOp_of_gOp hw (fun a' F' w' hw' h' => any_of_headG hL k _ a' F' w' hw' h') (h.2 i hi).2⟩

theorem headG_first {n i : Nat} {oi : Oper} {v : Value} {L : Array Bool → Act → Laid → Prop} (hi : ops[i]? = some oi) (hsel : ∀ (j : Nat) (o : Oper) cs b, ops[j]? = some o → o.op ≠ .select cs b)
    (hs : Region.sinkB md ops n = true) (hc : Region.chainB md ops n = true) (hn : n < ops.size) (hin : i < n)
    (hdone : ∀ listed a F, L listed a F → ∀ j ∈ Region.ready md ops listed, n ≤ j) :
    ∀ (k : Nat) (listed : Array Bool) (a : Act) (F : Laid), HeadInv md ops n listed →
      (∀ j oj, ops[j]? = some oj → j ≠ i → listed.getD j true = false → (∀ e ∈ oj.after, Region.binds md e = true → e.on ≠ i) → oi.apart ops oj = true) →
      i ∈ Region.ready md ops listed → YieldsG P ops w0 oi v a →
      headG P md ops w0 n L k (listed.setIfInBounds i true) (a.put oi.dst v) F → headG P md ops w0 n L (k + 1) listed a F := by
  intro k
  have low : ∀ listed, HeadInv md ops n listed → i ∈ Region.ready md ops listed → ∀ j ∈ Region.ready md ops listed, j < n := fun listed inv hr j hj => by
    rcases Nat.lt_or_ge j n with h | h
    · exact h
    · exact absurd hj (tail_waits hs hc hn inv _ i rfl hin (mem_ready.1 hr).1 j h)
  induction k with
  | zero =>
    intro listed a F inv _ hr hy H
    refine ⟨fun h => (by rw [h] at hr; cases hr), fun j hj => ?_⟩
    have hjn := low listed inv hr j hj
    refine ⟨hjn, ?_⟩
    by_cases hji : j = i
    · subst hji; exact hy.gOp hi H
    · have := hdone _ _ _ H j (ready_mono hj hji)
      omega
  | succ k ih =>
    intro listed a F inv hfree hr hy H
    have hun := (mem_ready.1 hr).1
    refine ⟨fun h => (by rw [h] at hr; cases hr), fun j hj => ?_⟩
    have hjn := low listed inv hr j hj
    refine ⟨hjn, ?_⟩
    by_cases hji : j = i
    · subst hji; exact hy.gOp hi H
    · have h1 := (H.2 j (ready_mono hj hji)).2
      obtain ⟨hjun, oj, hoj, hall⟩ := mem_ready.1 hj
      have hnot : ∀ e ∈ oj.after, Region.binds md e = true → e.on ≠ i := fun e he hb heq => by
        have h1 := hall e he hb
        rw [heq, getD_both hun] at h1
        cases h1
      have h2 := gOp_put hoj (hfree j oj hoj hji hjun hnot) (fun cs b => hsel i oi cs b hi) (fun cs b => hsel j oj cs b hoj) hy h1
      have hfree' : ∀ k ok, ops[k]? = some ok → k ≠ i → (listed.setIfInBounds j true).getD k true = false →
          (∀ e ∈ ok.after, Region.binds md e = true → e.on ≠ i) → oi.apart ops ok = true := fun k ok hk hki hun hno => by
        refine hfree k ok hk hki ?_ hno
        by_cases hjk : j = k
        · subst hjk; exact hjun
        · rw [getD_set_ne true hjk] at hun; exact hun
      refine gOp_mono (fun a' F' h3 => ih (listed.setIfInBounds j true) a' F' (inv.set hj hjn) hfree' (ready_mono hr (Ne.symm hji)) h3.1 ?_) h2
      rw [Array.setIfInBounds_comm _ _ hji]
      exact h3.2

/-! The operations that lay blocks, one after the other in an order of one's own: number, block, value. -/
abbrev Lays := List (Nat × Obj × (Nat → Value))
def wpLays (P : Program) (ops : Array Oper) (w0 : World) (L : Act → Laid → Prop) : Lays → Act → Laid → Prop
  | [], a, F => L a F
  | x :: js, a, F => ∃ o, ops[x.1]? = some o ∧ Region.wanted o (yielded ops a.tmps) = true ∧ Oper.freshAt P o a w0 x.2.1 x.2.2 ∧ ∀ b, wpLays P ops w0 L js (a.put o.dst (x.2.2 b)) ((b, x.2.1) :: F)
theorem wpLays_perm {L : Act → Laid → Prop} (hL : ∀ a F F', F.Perm F' → L a F → L a F') : ∀ (js : Lays) (a : Act) (F F' : Laid), F.Perm F' → wpLays P ops w0 L js a F → wpLays P ops w0 L js a F'
  | [], _, _, _, hp, h => hL _ _ _ hp h
  | _ :: js, _, _, _, hp, ⟨o, h1, h2, h3, h4⟩ => ⟨o, h1, h2, h3, fun b => wpLays_perm hL js _ _ _ (hp.cons _) (h4 b)⟩
/-- Two that are apart. -/
def apartB (ops : Array Oper) (i j : Nat) : Bool := match ops[i]?, ops[j]? with | some x, some y => x.apart ops y && y.apart ops x | _, _ => false
theorem wpLays_front {L : Act → Laid → Prop} (hL : ∀ a F F', F.Perm F' → L a F → L a F') (hsel : ∀ (j : Nat) (o : Oper) cs b, ops[j]? = some o → o.op ≠ .select cs b) (x : Nat × Obj × (Nat → Value)) (post : Lays) :
    ∀ (pre : Lays) (a : Act) (F : Laid), (∀ y ∈ pre, apartB ops y.1 x.1 = true) → wpLays P ops w0 L (pre ++ x :: post) a F → wpLays P ops w0 L (x :: (pre ++ post)) a F
  | [], _, _, _, h => h
  | y :: pre, a, F, hap, ⟨oy, h1, h2, h3, h4⟩ => by
    have ih := fun b => wpLays_front hL hsel x post pre _ _ (fun z hz => hap z (List.mem_cons_of_mem _ hz)) (h4 b)
    have hxy := hap y (List.mem_cons_self ..)
    obtain ⟨ox, g1, g2, g3, _⟩ := ih 0
    unfold apartB at hxy
    simp only [h1, g1, Bool.and_eq_true] at hxy
    obtain ⟨a1, a2, a3⟩ := Oper.apart_spec hxy.1
    obtain ⟨c1, c2, c3⟩ := Oper.apart_spec hxy.2
    have e1 : ∀ u, execOp (a.put oy.dst u).eval ox = execOp a.eval ox := fun u => execOp_put ox (fun cs b => hsel _ _ cs b g1) a oy.dst u a1
    have e2 : ∀ u, execOp (a.put ox.dst u).eval oy = execOp a.eval oy := fun u => execOp_put oy (fun cs b => hsel _ _ cs b h1) a ox.dst u a3
    refine ⟨ox, g1, ?_, ?_, fun b => ⟨oy, h1, ?_, ?_, fun c => ?_⟩⟩
    · rwa [wanted_put ox a oy.dst _ a1] at g2
    · unfold Oper.freshAt at *; rwa [e1] at g3
    · rw [wanted_put oy a ox.dst _ a3]; exact h2
    · unfold Oper.freshAt at *; rw [e2]; exact h3
    · obtain ⟨ox', g1', _, _, g4'⟩ := ih c
      have : ox' = ox := Option.some.inj (g1'.symm.trans g1)
      subst this
      have hp := g4' b
      rw [Act.put_comm a (y.2.2 c) (x.2.2 b) a2] at hp
      exact wpLays_perm hL _ _ _ _ (List.Perm.swap _ _ _) hp

theorem headG_lays {n : Nat} {Lq : Act → Laid → Prop} {L : Array Bool → Act → Laid → Prop} (hL : ∀ a F F', F.Perm F' → Lq a F → Lq a F') (hsel : ∀ (j : Nat) (o : Oper) cs b, ops[j]? = some o → o.op ≠ .select cs b)
    (hs : Region.sinkB md ops n = true) (hc : Region.chainB md ops n = true) (hn : n < ops.size) (hend : ∀ listed a F, HeadInv md ops n listed → (∀ i, i < n → listed.getD i false = true) → Lq a F → L listed a F) :
    ∀ (k : Nat) (js : Lays) (listed : Array Bool) (a : Act) (F : Laid), js.length = k → HeadInv md ops n listed → (∀ x ∈ js, x.1 ∈ Region.ready md ops listed ∧ x.1 < n) → js.Pairwise (fun x y => apartB ops x.1 y.1 = true ∧ apartB ops y.1 x.1 = true ∧ x.1 ≠ y.1) →
      (∀ i, i < n → listed.getD i false = true ∨ ∃ x ∈ js, x.1 = i) → wpLays P ops w0 Lq js a F → headG P md ops w0 n L k listed a F
  | 0, [], listed, a, F, _, inv, _, _, hall, h => hend listed a F inv (fun i hi => (by rcases hall i hi with h | ⟨x, hx, _⟩; exact h; cases hx)) h
  | k + 1, [], _, _, _, hk, _, _, _, _, _ => by simp at hk
  | 0, _ :: _, _, _, _, hk, _, _, _, _, _ => by simp at hk
  | k + 1, x :: js, listed, a, F, hk, inv, hrd, hpw, hall, h => by
    refine ⟨fun h0 => (by have := (hrd x (List.mem_cons_self ..)).1; rw [h0] at this; cases this), fun i hi => ?_⟩
    have hin : i < n := by
      rcases Nat.lt_or_ge i n with h' | h'
      · exact h'
      · exact absurd hi (tail_waits hs hc hn inv _ x.1 rfl (hrd x (List.mem_cons_self ..)).2 (mem_ready.1 (hrd x (List.mem_cons_self ..)).1).1 i h')
    refine ⟨hin, ?_⟩
    have hun := (mem_ready.1 hi).1
    obtain ⟨y, hy, rfl⟩ : ∃ y ∈ x :: js, y.1 = i := by
      rcases hall i hin with h' | h'
      · rw [getD_both hun] at h'; cases h'
      · exact h'
    obtain ⟨pre, post, he⟩ := List.append_of_mem hy
    rw [he] at h hpw hrd hall hk
    have hpw2 := List.pairwise_append.1 hpw
    have hf := wpLays_front hL hsel y post pre a F (fun z hz => (hpw2.2.2 z hz y (List.mem_cons_self ..)).1) h
    obtain ⟨o, h1, h2, h3, h4⟩ := hf
    unfold gOp
    simp only [h1, h2, if_true]
    refine .inr ⟨y.2.1, y.2.2, h3, fun b => ?_⟩
    have hne : ∀ z ∈ pre ++ post, z.1 ≠ y.1 := fun z hz => by
      rcases List.mem_append.1 hz with hz | hz
      · exact (hpw2.2.2 z hz y (List.mem_cons_self ..)).2.2
      · exact fun e => (((List.pairwise_cons.1 hpw2.2.1).1 z hz).2.2) e.symm
    refine headG_lays hL hsel hs hc hn hend k (pre ++ post) _ _ _ (by simp at hk ⊢; omega) (inv.set hi hin) (fun z hz => ?_) ?_ (fun i' hi' => ?_) (h4 b)
    · have hz' := hrd z (by rcases List.mem_append.1 hz with hz | hz; exact List.mem_append_left _ hz; exact List.mem_append_right _ (List.mem_cons_of_mem _ hz))
      exact ⟨ready_mono hz'.1 (hne z hz), hz'.2⟩
    · exact List.pairwise_append.2 ⟨hpw2.1, (List.pairwise_cons.1 hpw2.2.1).2, fun z hz u hu => hpw2.2.2 z hz u (List.mem_cons_of_mem _ hu)⟩
    · rcases hall i' hi' with h' | ⟨z, hz, rfl⟩
      · exact .inl (getD_set_true h')
      · by_cases hzy : z.1 = y.1
        · left
          rw [hzy]
          have hlt : y.1 < listed.size := by rw [inv.size]; omega
          simp [hlt]
        · right
          refine ⟨z, ?_, rfl⟩
          rcases List.mem_append.1 hz with hz | hz
          · exact List.mem_append_left _ hz
          · rcases List.mem_cons.1 hz with rfl | hz
            · exact absurd rfl hzy
            · exact List.mem_append_right _ hz

/-- The Bool over a region: ks are the quiet ones, js those that lay blocks. -/
def freshEndB (md : Region.Mode) (ops : Array Oper) (n g : Nat) (js : List Nat) (listed : Array Bool) : Bool :=
  js.all (fun j => (Region.ready md ops listed).contains j && decide (j < n)) && (List.range n).all (fun i => listed.getD i false || js.contains i) &&
    Region.seqB md ops g n (Array.ofFn (n := ops.size) fun i => decide (i.val < n)) && decide (js.Pairwise (fun x y => apartB ops x y = true ∧ apartB ops y x = true ∧ x ≠ y))
def freshGoB (md : Region.Mode) (ops : Array Oper) (n g : Nat) (js : List Nat) : List Nat → Array Bool → Bool
  | [], listed => freshEndB md ops n g js listed
  | k :: ks, listed => (Region.ready md ops listed).contains k && decide (k < n) && Region.free md ops listed k && freshGoB md ops n g js ks (listed.setIfInBounds k true)
def freshB (md : Region.Mode) (ops : Array Oper) (n : Nat) (ks js : List Nat) : Bool :=
  Region.noSelect ops && decide (n < ops.size) && Region.sinkB md ops n && Region.chainB md ops n && freshGoB md ops n (ops.size - n) js ks (Array.replicate ops.size false)

theorem headG_go {n g : Nat} {Lq : Act → Laid → Prop} (hL : ∀ a F F', F.Perm F' → Lq a F → Lq a F') (hsel : Region.noSelect ops = true) (hs : Region.sinkB md ops n = true) (hc : Region.chainB md ops n = true) (hn : n < ops.size) (js : Lays) :
    ∀ (ks : List Nat) (listed : Array Bool) (a : Act) (F : Laid), HeadInv md ops n listed → freshGoB md ops n g (js.map (·.1)) ks listed = true →
      wpGrow P ops w0 (fun a' => wpLays P ops w0 Lq js a' F) (ks.map fun k => ops[k]?.getD default) a →
      headG P md ops w0 n (fun listed' a' F' => Region.seqB md ops g n listed' = true ∧ Lq a' F') (ks.length + js.length) listed a F
  | [], listed, a, F, inv, hB, h => by
    simp only [freshGoB, freshEndB, Bool.and_eq_true, List.all_eq_true, decide_eq_true_eq] at hB
    obtain ⟨⟨⟨b1, b2⟩, b3⟩, b4⟩ := hB
    rw [List.length_nil, Nat.zero_add]
    have hend : ∀ (listed' : Array Bool) (a' : Act) (F' : Laid), HeadInv md ops n listed' → (∀ i, i < n → listed'.getD i false = true) → Lq a' F' → Region.seqB md ops g n listed' = true ∧ Lq a' F' := by
      intro listed' a' F' inv' hall' hq
      refine ⟨?_, hq⟩
      have : listed' = Array.ofFn (n := ops.size) fun i => decide (i.val < n) := by
        refine Array.ext (by rw [inv'.size, Array.size_ofFn]) fun i h1 h2 => ?_
        rw [Array.getElem_ofFn]
        by_cases hi : i < n
        · have := hall' i hi
          simp [h1] at this
          simp [hi, this]
        · have := inv'.tail i (by omega) (by rw [← inv'.size]; exact h1)
          simp [h1] at this
          simp [hi, this]
      rw [this]
      exact b3
    refine headG_lays (Lq := Lq) hL (Region.noSelect_spec hsel) hs hc hn hend js.length js listed a F rfl inv (fun x hx => ?_) ?_ (fun i hi => ?_) h
    · have := b1 x.1 (List.mem_map.2 ⟨x, hx, rfl⟩)
      exact ⟨by simpa using this.1, this.2⟩
    · exact List.pairwise_map.1 b4
    · have := b2 i (List.mem_range.2 hi)
      simp only [Bool.or_eq_true] at this
      rcases this with h' | h'
      · exact .inl h'
      · right
        simp only [List.contains_iff_exists_mem_beq, List.mem_map, beq_iff_eq] at h'
        obtain ⟨_, ⟨x, hx, rfl⟩, e⟩ := h'
        exact ⟨x, hx, e.symm⟩
  | k :: ks, listed, a, F, inv, hB, h => by
    simp only [freshGoB, Bool.and_eq_true, decide_eq_true_eq] at hB
    obtain ⟨⟨⟨hr, hkn⟩, hf⟩, hB'⟩ := hB
    have hr' : k ∈ Region.ready md ops listed := by simpa using hr
    obtain ⟨_, o, ho, _⟩ := mem_ready.1 hr'
    simp only [List.map_cons, ho, Option.getD_some] at h
    have hy : ∃ v, YieldsG P ops w0 o v a ∧ wpGrow P ops w0 (fun a' => wpLays P ops w0 Lq js a' F) (ks.map fun k => ops[k]?.getD default) (a.put o.dst v) := by
      unfold wpGrow at h
      by_cases hw : Region.wanted o (yielded ops a.tmps) = true
      · rw [if_pos hw] at h
        obtain ⟨v, h1, h2⟩ := h
        exact ⟨v, .inl ⟨hw, h1⟩, h2⟩
      · rw [if_neg hw] at h
        exact ⟨undef, .inr ⟨by simpa using hw, rfl⟩, h⟩
    obtain ⟨v, hy, hK⟩ := hy
    rw [List.length_cons, show ks.length + 1 + js.length = (ks.length + js.length) + 1 by omega]
    exact headG_first ho (Region.noSelect_spec hsel) hs hc hn hkn (fun listed' a' F' hL' => seqB_ready hL'.1) (ks.length + js.length) listed a F inv (Region.free_spec ho hf) hr' hy
      (headG_go hL hsel hs hc hn js ks _ _ F (inv.set hr' hkn) hB' hK)

/-- ONE WALK: the quiet ones in the order ks, those that lay blocks in the order js, then the tail. -/
theorem wp_region_fresh {id : Nat} {Q : Exit → Act → World → Prop} {a : Act} {w : World} {l : List Oper} (n : Nat) (ks : List Nat) (js : Lays) (hm : P.follows .mixedOrders = true)
    (hB : freshB .any l.toArray n ks (js.map (·.1)) = true) (hlen : ks.length + js.length = n)
    (h : wpGrow P l.toArray w (fun a' => wpLays P l.toArray w (fun a2 F => ∀ w', Below w.heap.size w w' → (∀ x ∈ F, w.heap.size ≤ x.1 ∧ x.1 < w'.heap.size ∧ w'.heap[x.1]? = some x.2) → F.Pairwise (fun x y => x.1 ≠ y.1) → wpList P l.toArray Q (l.drop n) a2 w') js a' [])
      (ks.map fun k => l.toArray[k]?.getD default) a) : (Code.region id l.toArray true).wp P Q a w := by
  simp only [freshB, Bool.and_eq_true, decide_eq_true_eq] at hB
  obtain ⟨⟨⟨⟨hsel, hn⟩, hs⟩, hc⟩, hgo⟩ := hB
  have hdl : (l.drop n).length = l.toArray.size - n := by simp
  have inv0 : HeadInv .any l.toArray n (Array.replicate l.toArray.size false) :=
    ⟨by simp, fun j oj _ hl => (by rw [getD_replicate_false] at hl; cases hl), fun t _ ht => getD_in (by simpa using ht) (getD_replicate_false _ _)⟩
  have H := headG_go (md := .any) (g := l.toArray.size - n) (Lq := fun a2 F => ∀ w', Below w.heap.size w w' → (∀ x ∈ F, w.heap.size ≤ x.1 ∧ x.1 < w'.heap.size ∧ w'.heap[x.1]? = some x.2) → F.Pairwise (fun x y => x.1 ≠ y.1) → wpList P l.toArray Q (l.drop n) a2 w')
    (fun a F F' hp hq w' hb hx hpw => hq w' hb (fun x hxF => hx x (hp.mem_iff.1 hxF)) ((hp.pairwise_iff (fun {x y} h => Ne.symm h)).2 hpw)) hsel hs hc hn js ks _ a [] inv0 hgo h
  refine wp_region_any hm ?_
  have := any_of_headG (Q' := Q) (g := l.toArray.size - n) (w0 := w) (fun listed a' F w' hI hL => by
    have := wpAny_of_seq (md := .any) (Q' := Q) (l.drop n) n listed a' w' (fun j => by simp [List.getElem?_drop]) (by rw [hdl]; exact hL.1) (hL.2 w' hI.1 hI.2.1 hI.2.2)
    rwa [hdl] at this) _ _ _ _ { w with drawn := w.drawn + 1 } ⟨(Below.refl _ w).drew, fun x hx => (by cases hx), List.Pairwise.nil⟩ H
  rw [hlen, show n + (l.toArray.size - n) = l.toArray.size by omega] at this
  exact this
end
end Go.Proofs.Ytnfcigbiebbjdaa
namespace Go.Proofs.Ytnfcigbiebbjdaa
open Go.RowKit

section
variable {P : Program} {ops : Array Oper} {Q : Exit → Act → World → Prop}

/-- Operation x waits for q besides. -/
def waitOn (q : Nat) (o : Oper) : Oper := { o with after := o.after.push ⟨q, .data⟩ }
def withEdge (ops : Array Oper) (x q : Nat) : Array Oper := ops.modify x (waitOn q)
theorem getElem_edge (x q i : Nat) : (withEdge ops x q)[i]? = (ops[i]?).map fun o => if x = i then waitOn q o else o := by
  unfold withEdge
  rw [Array.getElem?_modify]
  split
  · rename_i h; subst h; simp
  · rename_i h; simp
theorem wanted_wait (q : Nat) (o : Oper) (y : Nat → Option Bool) : Region.wanted (waitOn q o) y = Region.wanted o y := rfl
theorem exec_wait (q : Nat) (o : Oper) (ρ : Operand → Value) : execOp ρ (waitOn q o) = execOp ρ o := rfl
theorem yielded_edge (x q : Nat) (tmps : Array Value) : yielded (withEdge ops x q) tmps = yielded ops tmps := by
  funext j
  unfold yielded
  rw [getElem_edge]
  cases ops[j]? with
  | none => rfl
  | some o =>
    simp only [Option.map_some, Option.bind_some]
    by_cases h : x = j
    · rw [if_pos h]; rfl
    · rw [if_neg h]
theorem wpOp_edge {x q i : Nat} {K : Act → World → Prop} {a : Act} {w : World} : wpOp P (withEdge ops x q) Q i K a w = wpOp P ops Q i K a w := by
  unfold wpOp
  rw [getElem_edge]
  cases ops[i]? with
  | none => rfl
  | some o =>
    simp only [Option.map_some]
    split
    · rename_i h; subst h
      simp only [wanted_wait, yielded_edge]
      rfl
    · simp only [yielded_edge]

/-- An operation that only takes a tuple apart. -/
def isExtract (o : Oper) : Bool := match o.op, o.guard with | .extract _ _, none => true | _, _ => false
theorem extract_yields {q : Nat} {o : Oper} (ho : ops[q]? = some o) (he : isExtract o = true) {K : Act → World → Prop} {a : Act} {w : World} (h : wpOp P ops Q q K a w) :
    ∃ v, Yields P ops o v a ∧ K (a.put o.dst v) w := by
  obtain ⟨dst, op, ty, pos, after, guard⟩ := o
  unfold isExtract at he
  cases op <;> simp only at he <;> try cases he
  rename_i t ix
  cases guard with
  | some g => cases he
  | none =>
    unfold wpOp at h
    simp only [ho] at h
    have hw : Region.wanted ⟨dst, .extract t ix, ty, pos, after, none⟩ (yielded ops a.tmps) = true := rfl
    rw [if_pos hw] at h
    have key : (∃ v, execOp a.eval ⟨dst, .extract t ix, ty, pos, after, none⟩ = Sem.pure (.value v)) ∨ ∃ s, execOp a.eval ⟨dst, .extract t ix, ty, pos, after, none⟩ = Sem.halt (.stuck s) := by
      show (∃ v, (do return Next.value (← Instr.extract (a.eval t) ix)) = Sem.pure (.value v)) ∨ ∃ s, (do return Next.value (← Instr.extract (a.eval t) ix)) = Sem.halt (.stuck s)
      unfold Instr.extract
      cases a.eval t with
      | tuple vs =>
        simp only
        cases vs[ix]? with
        | none => exact .inr ⟨_, rfl⟩
        | some v => exact .inl ⟨v, rfl⟩
      | _ => exact .inr ⟨_, rfl⟩
    rcases key with ⟨v, hv⟩ | ⟨s, hs⟩
    · refine ⟨v, .inl ⟨hw, fun w' => by rw [hv]; rfl⟩, ?_⟩
      rcases h with h | h
      · unfold Oper.wp at h
        rw [hv] at h
        exact h
      · obtain ⟨⟨h1, _⟩, _⟩ := h
        rw [hv] at h1
        exact absurd h1 (by intro hh; cases hh; rename_i hh; cases hh)
    · rcases h with h | h
      · unfold Oper.wp at h
        rw [hs] at h
        exact h.elim
      · obtain ⟨⟨h1, _⟩, _⟩ := h
        rw [hs] at h1
        exact absurd h1 (by intro hh; cases hh; rename_i hh; cases hh)

/-- What is asked of the edge. -/
def edgeB (md : Region.Mode) (ops : Array Oper) (x q : Nat) : Bool :=
  match ops[q]?, ops[x]? with
  | some oq, some ox => isExtract oq && decide (x ≠ q) && Region.binds md ⟨q, .data⟩ && Region.noSelect ops &&
      oq.after.all (fun e => !Region.binds md e || ox.after.any fun e' => Region.binds md e' && e'.on == e.on) &&
      (List.range ops.size).all fun j => j == q || match ops[j]? with
        | some oj => (oj.after.any (fun e => Region.binds md e && e.on == q) || oq.after.any (fun e => Region.binds md e && e.on == j)) || oq.apart ops oj
        | none => true
  | _, _ => false
theorem edge_spec {md : Region.Mode} {x q : Nat} (h : edgeB md ops x q = true) : ∃ oq ox, ops[q]? = some oq ∧ ops[x]? = some ox ∧ isExtract oq = true ∧ x ≠ q ∧ Region.binds md ⟨q, .data⟩ = true ∧ Region.noSelect ops = true ∧
    (∀ e ∈ oq.after, Region.binds md e = true → ∃ e' ∈ ox.after, Region.binds md e' = true ∧ e'.on = e.on) ∧
    ∀ j oj, ops[j]? = some oj → j ≠ q → (∀ e ∈ oj.after, Region.binds md e = true → e.on ≠ q) → (∀ e ∈ oq.after, Region.binds md e = true → e.on ≠ j) → oq.apart ops oj = true := by
  unfold edgeB at h
  cases hq : ops[q]? with
  | none => rw [hq] at h; cases h
  | some oq =>
    cases hx : ops[x]? with
    | none => rw [hq, hx] at h; cases h
    | some ox =>
      rw [hq, hx] at h
      simp only [Bool.and_eq_true, decide_eq_true_eq] at h
      obtain ⟨⟨⟨⟨⟨h1, h2⟩, h3⟩, h4⟩, h5⟩, h6⟩ := h
      refine ⟨oq, ox, rfl, rfl, h1, h2, h3, h4, fun e he hb => ?_, fun j oj hj hne hno hnq => ?_⟩
      · have := Array.all_eq_true_iff_forall_mem.1 h5 e he
        simp only [hb, Bool.not_true, Bool.false_or] at this
        obtain ⟨e', he', h'⟩ := Array.any_eq_true'.1 this
        simp only [Bool.and_eq_true, beq_iff_eq] at h'
        exact ⟨e', he', h'.1, h'.2⟩
      · have := List.all_eq_true.1 h6 j (List.mem_range.2 (Array.getElem?_eq_some_iff.1 hj).1)
        simp only [hj, Bool.or_eq_true, beq_iff_eq, hne, false_or] at this
        rcases this with (h' | h') | h'
        · obtain ⟨e, he, hb⟩ := Array.any_eq_true'.1 h'
          simp only [Bool.and_eq_true, beq_iff_eq] at hb
          exact absurd hb.2 (hno e he hb.1)
        · obtain ⟨e, he, hb⟩ := Array.any_eq_true'.1 h'
          simp only [Bool.and_eq_true, beq_iff_eq] at hb
          exact absurd hb.2 (hnq e he hb.1)
        · exact h'

theorem ready_edge {md : Region.Mode} {x q j : Nat} {listed : Array Bool} (h : edgeB md ops x q = true) :
    j ∈ Region.ready md (withEdge ops x q) listed ↔ j ∈ Region.ready md ops listed ∧ (j = x → listed.getD q false = true) := by
  obtain ⟨oq, ox, _, hx, _, _, hb, _, _, _⟩ := edge_spec h
  rw [mem_ready, mem_ready]
  constructor
  · rintro ⟨h1, o, ho, h2⟩
    rw [getElem_edge] at ho
    cases hj : ops[j]? with
    | none => rw [hj] at ho; cases ho
    | some o' =>
      rw [hj] at ho
      have ho' : (if x = j then waitOn q o' else o') = o := by simpa using ho
      by_cases hxj : x = j
      · rw [if_pos hxj] at ho'
        subst ho'
        exact ⟨⟨h1, o', rfl, fun e he => h2 e (Array.mem_push.2 (.inl he))⟩, fun _ => h2 ⟨q, .data⟩ (Array.mem_push.2 (.inr rfl)) hb⟩
      · rw [if_neg hxj] at ho'
        subst ho'
        exact ⟨⟨h1, o', rfl, h2⟩, fun e => absurd e.symm hxj⟩
  · rintro ⟨⟨h1, o, ho, h2⟩, h3⟩
    refine ⟨h1, if x = j then waitOn q o else o, by rw [getElem_edge, ho]; rfl, fun e he hbe => ?_⟩
    by_cases hxj : x = j
    · rw [if_pos hxj] at he
      rcases Array.mem_push.1 he with he | rfl
      · exact h2 e he hbe
      · exact h3 hxj.symm
    · rw [if_neg hxj] at he
      exact h2 e he hbe

theorem wpAny_edge {md : Region.Mode} {x q : Nat} (hB : edgeB md ops x q = true) (hQ : ∀ d v c a w, Q (.panic c) (Act.put a d v) w → Q (.panic c) a w) :
    ∀ (fuel : Nat) (listed : Array Bool) (a : Act) (w : World), listed.size = ops.size → wpAny P md (withEdge ops x q) Q fuel listed a w → wpAny P md ops Q fuel listed a w := by
  obtain ⟨oq, ox, hq, hx, he, hne, hb, hsel, hdep, hap⟩ := edge_spec hB
  -- if q isn't ready and x is, q has come up
  have hqx : ∀ listed : Array Bool, listed.size = ops.size → q ∉ Region.ready md ops listed → x ∈ Region.ready md ops listed → listed.getD q false = true := by
    intro listed hsz hnq hxr
    obtain ⟨_, o, ho, hall⟩ := mem_ready.1 hxr
    have : o = ox := Option.some.inj (ho.symm.trans hx)
    subst this
    cases hl : listed.getD q true with
    | false =>
      exfalso
      refine hnq (mem_ready.2 ⟨hl, oq, hq, fun e hee hbe => ?_⟩)
      obtain ⟨e', he', hb', hon⟩ := hdep e hee hbe
      rw [← hon]
      exact hall e' he' hb'
    | true =>
      rcases Nat.lt_or_ge q listed.size with h' | h'
      · simp [h'] at hl ⊢; exact hl
      · exfalso
        have := (Array.getElem?_eq_some_iff.1 hq).1
        omega
  have hsame : ∀ listed : Array Bool, listed.size = ops.size → q ∉ Region.ready md ops listed → ∀ j, j ∈ Region.ready md (withEdge ops x q) listed ↔ j ∈ Region.ready md ops listed := fun listed hsz hqr j =>
    (ready_edge hB).trans ⟨fun h => h.1, fun h => ⟨h, fun e => hqx listed hsz hqr (e ▸ h)⟩⟩
  have hin : ∀ listed, q ∈ Region.ready md ops listed → q ∈ Region.ready md (withEdge ops x q) listed := fun listed hqr => (ready_edge hB).2 ⟨hqr, fun e => absurd e.symm hne⟩
  have hnil : ∀ l : List Nat, (∀ j, j ∉ l) → l = [] := fun l h => by
    cases l with
    | nil => rfl
    | cons y ys => exact absurd (List.mem_cons_self ..) (h y)
  intro fuel
  induction fuel with
  | zero =>
    intro listed a w hsz h
    refine ⟨hnil _ fun j hj => ?_, h.2⟩
    by_cases hqr : q ∈ Region.ready md ops listed
    · have := hin listed hqr
      rw [h.1] at this
      cases this
    · have := (hsame listed hsz hqr j).2 hj
      rw [h.1] at this
      cases this
  | succ fuel ih =>
    intro listed a w hsz h
    by_cases hqr : q ∈ Region.ready md ops listed
    · have h1 := h.2 q (hin listed hqr)
      rw [wpOp_edge] at h1
      obtain ⟨v, hy, hK⟩ := extract_yields hq he h1
      exact wpAny_first hq (Region.noSelect_spec hsel) (fun c a w => hQ oq.dst v c a w) fuel listed a w (fun j oj hj hjn hjl hno => hap j oj hj hjn hno fun e hee hbe hon => by
        obtain ⟨_, o2, ho2, hall⟩ := mem_ready.1 hqr
        have : o2 = oq := Option.some.inj (ho2.symm.trans hq)
        subst this
        have := hall e hee hbe
        rw [hon] at this
        rcases Nat.lt_or_ge j listed.size with h' | h'
        · simp [h'] at this hjl
          rw [this] at hjl
          cases hjl
        · have hn := Array.getElem?_eq_none h'
          simp [Array.getD_eq_getD_getElem?, hn] at this) hqr hy (ih _ _ _ (by simpa using hsz) hK)
    · refine ⟨fun h0 => h.1 (hnil _ fun j hj => ?_), fun i hi => ?_⟩
      · have := (hsame listed hsz hqr j).1 hj
        rw [h0] at this
        cases this
      · have h1 := h.2 i ((hsame listed hsz hqr i).2 hi)
        rw [wpOp_edge] at h1
        exact wpOp_mono (fun a' w' h' => ih _ _ _ (by simpa using hsz) h') h1

/-! The same walks, over the region as it is. -/
theorem wpGrow_edge {w0 : World} {x q : Nat} {L L' : Act → Prop} (hL : ∀ a, L a → L' a) : ∀ (ks : List Nat) (a : Act), (∀ k ∈ ks, k < ops.size) → wpGrow P ops w0 L (ks.map fun k => ops[k]?.getD default) a →
    wpGrow P (withEdge ops x q) w0 L' (ks.map fun k => (withEdge ops x q)[k]?.getD default) a
  | [], a, _, h => hL a h
  | k :: ks, a, hk, h => by
    have hkl := hk k (List.mem_cons_self ..)
    have ho : ops[k]? = some ops[k] := Array.getElem?_eq_getElem hkl
    simp only [List.map_cons, getElem_edge, ho, Option.map_some, Option.getD_some] at h ⊢
    have ih := fun a' => wpGrow_edge (w0 := w0) (x := x) (q := q) (L := L) (L' := L') hL ks a' (fun j hj => hk j (List.mem_cons_of_mem _ hj))
    have e1 : Region.wanted (if x = k then waitOn q ops[k] else ops[k]) = Region.wanted ops[k] := by split <;> rfl
    have e2 : ∀ ρ, execOp ρ (if x = k then waitOn q ops[k] else ops[k]) = execOp ρ ops[k] := fun ρ => by split <;> rfl
    have e3 : (if x = k then waitOn q ops[k] else ops[k]).dst = ops[k].dst := by split <;> rfl
    unfold wpGrow at h ⊢
    rw [e1, yielded_edge, e3]
    by_cases hw : Region.wanted ops[k] (yielded ops a.tmps) = true
    · rw [if_pos hw] at h ⊢
      obtain ⟨v, h1, h2⟩ := h
      refine ⟨v, ?_, ?_⟩
      · unfold Oper.growAt at *
        rw [e2]
        exact h1
      · have := ih _ h2
        simpa only [getElem_edge] using this
    · rw [if_neg hw] at h ⊢
      have := ih _ h
      simpa only [getElem_edge] using this
theorem wpLays_edge {w0 : World} {x q : Nat} {L L' : Act → Laid → Prop} (hL : ∀ a F, L a F → L' a F) : ∀ (js : Lays) (a : Act) (F : Laid), wpLays P ops w0 L js a F → wpLays P (withEdge ops x q) w0 L' js a F
  | [], a, F, h => hL a F h
  | y :: js, a, F, ⟨o, h1, h2, h3, h4⟩ => by
    refine ⟨if x = y.1 then waitOn q o else o, by rw [getElem_edge, h1]; rfl, ?_, ?_, fun b => ?_⟩
    · rw [yielded_edge]; split <;> exact h2
    · unfold Oper.freshAt at *; split <;> exact h3
    · have := wpLays_edge (x := x) (q := q) hL js _ _ (h4 b)
      split <;> exact this
theorem wpList_edge {x q : Nat} : ∀ (l l' : List Oper) (a : Act) (w : World), l'.length = l.length → (∀ (i : Nat) (o : Oper), l[i]? = some o → ∃ o', l'[i]? = some o' ∧ (o' = o ∨ o' = waitOn q o)) → wpList P ops Q l a w → wpList P (withEdge ops x q) Q l' a w
  | [], [], _, _, _, _, h => h
  | [], _ :: _, _, _, hl, _, _ => by simp at hl
  | _ :: _, [], _, _, hl, _, _ => by simp at hl
  | o :: l, o' :: l', a, w, hl, he, h => by
    obtain ⟨o2, ho2, ho'⟩ := he 0 o rfl
    have : o' = o2 := by simpa using ho2
    subst this
    have ih := fun a' w' => wpList_edge (x := x) (q := q) l l' a' w' (by simpa using hl) (fun i o hi => by have := he (i + 1) o (by simpa using hi); simpa using this)
    unfold wpList at h ⊢
    rw [yielded_edge]
    rcases ho' with rfl | rfl
    · split
      · rename_i hw
        rw [if_pos hw] at h
        exact h.imp (Oper.wp_mono ih) id
      · rename_i hw
        rw [if_neg hw] at h
        exact ih _ _ h
    · rw [wanted_wait]
      split
      · rename_i hw
        rw [if_pos hw] at h
        refine h.imp (fun h => ?_) id
        exact Oper.wp_mono (o := o) ih h
      · rename_i hw
        rw [if_neg hw] at h
        exact ih _ _ h

/-- ONE WALK, as 'wp_region_fresh', where an 'extract' (q) may come up late: x, of the tail, is taken to wait for it. -/
theorem wp_region_fresh_edge {id : Nat} {a : Act} {w : World} {l : List Oper} (x q n : Nat) (ks : List Nat) (js : Lays) (hm : P.follows .mixedOrders = true)
    (hE : edgeB .any l.toArray x q = true) (hB : freshB .any (withEdge l.toArray x q) n ks (js.map (·.1)) = true) (hks : ks.all (fun k => decide (k < l.toArray.size)) = true) (hlen : ks.length + js.length = n)
    (hQ : ∀ d v c a w, Q (.panic c) (Act.put a d v) w → Q (.panic c) a w)
    (h : wpGrow P l.toArray w (fun a' => wpLays P l.toArray w (fun a2 F => ∀ w', Below w.heap.size w w' → (∀ x ∈ F, w.heap.size ≤ x.1 ∧ x.1 < w'.heap.size ∧ w'.heap[x.1]? = some x.2) → F.Pairwise (fun x y => x.1 ≠ y.1) → wpList P l.toArray Q (l.drop n) a2 w') js a' [])
      (ks.map fun k => l.toArray[k]?.getD default) a) : (Code.region id l.toArray true).wp P Q a w := by
  refine wp_region_any hm (wpAny_edge hE hQ _ _ _ _ (by simp) ?_)
  have hB0 := hB
  simp only [freshB, Bool.and_eq_true, decide_eq_true_eq] at hB
  obtain ⟨⟨⟨⟨hsel, hn⟩, hs⟩, hc⟩, hgo⟩ := hB
  have hsz : (withEdge l.toArray x q).size = l.toArray.size := by unfold withEdge; simp
  rw [hsz] at hn hgo
  have hdl : ((withEdge l.toArray x q).toList.drop n).length = l.toArray.size - n := by rw [List.length_drop, Array.length_toList, hsz]
  have inv0 : HeadInv .any (withEdge l.toArray x q) n (Array.replicate l.toArray.size false) :=
    ⟨by rw [hsz]; simp, fun j oj _ hl => (by rw [getD_replicate_false] at hl; cases hl), fun t _ ht => getD_in (by rw [hsz] at ht; simpa using ht) (getD_replicate_false _ _)⟩
  have hpw : ∀ (a : Act) (F F' : Laid), F.Perm F' → (∀ w', Below w.heap.size w w' → (∀ x ∈ F, w.heap.size ≤ x.1 ∧ x.1 < w'.heap.size ∧ w'.heap[x.1]? = some x.2) → F.Pairwise (fun x y => x.1 ≠ y.1) → wpList P (withEdge l.toArray x q) Q ((withEdge l.toArray x q).toList.drop n) a w') →
      (∀ w', Below w.heap.size w w' → (∀ x ∈ F', w.heap.size ≤ x.1 ∧ x.1 < w'.heap.size ∧ w'.heap[x.1]? = some x.2) → F'.Pairwise (fun x y => x.1 ≠ y.1) → wpList P (withEdge l.toArray x q) Q ((withEdge l.toArray x q).toList.drop n) a w') :=
    fun a F F' hp hq w' hb hx hpw => hq w' hb (fun x hxF => hx x (hp.mem_iff.1 hxF)) ((hp.pairwise_iff (fun {x y} h => Ne.symm h)).2 hpw)
  have h' := wpGrow_edge (x := x) (q := q) (fun a' => wpLays_edge (x := x) (q := q) (L' := fun a2 F => ∀ w', Below w.heap.size w w' → (∀ x ∈ F, w.heap.size ≤ x.1 ∧ x.1 < w'.heap.size ∧ w'.heap[x.1]? = some x.2) → F.Pairwise (fun x y => x.1 ≠ y.1) → wpList P (withEdge l.toArray x q) Q ((withEdge l.toArray x q).toList.drop n) a2 w')
    (fun a2 F hf w' hb hx hp => wpList_edge _ _ _ _ (by simp [hsz]) (fun i o hi => by
      rw [List.getElem?_drop] at hi
      refine ⟨if x = n + i then waitOn q o else o, ?_, by split; exact .inr rfl; exact .inl rfl⟩
      rw [List.getElem?_drop, Array.getElem?_toList, getElem_edge, List.getElem?_toArray, hi]
      rfl) (hf w' hb hx hp)) js a' []) ks a (fun k hk => of_decide_eq_true (List.all_eq_true.1 hks k hk)) h
  have H := headG_go (md := .any) (g := l.toArray.size - n) hpw hsel hs hc (by rw [hsz]; exact hn) js ks _ a [] inv0 hgo h'
  have := any_of_headG (Q' := Q) (g := l.toArray.size - n) (w0 := w) (fun listed a' F w' hI hL => by
    have := wpAny_of_seq (md := .any) (Q' := Q) ((withEdge l.toArray x q).toList.drop n) n listed a' w' (fun j => by rw [List.getElem?_drop, Array.getElem?_toList]) (by rw [hdl]; exact hL.1) (hL.2 w' hI.1 hI.2.1 hI.2.2)
    rwa [hdl] at this) _ _ _ _ { w with drawn := w.drawn + 1 } ⟨(Below.refl _ w).drew, fun x hx => (by cases hx), List.Pairwise.nil⟩ H
  rw [hlen, show n + (l.toArray.size - n) = l.toArray.size by omega] at this
  exact this
end
end Go.Proofs.Ytnfcigbiebbjdaa
