/-
  Small laws over any program: a region that draws its order may be walked as if one operation waited for an 'extract' besides.
  No conditions.
-/
import Derived.Test.YtjlnkghjiaglmaaFresh
namespace Go.Proofs.Ytjlnkghjiaglmaa
open Go.RowKit

section
variable {P : Program} {ops : Array Oper} {Q : Exit → Act → World → Prop}

/-- Operation x waits for q besides. -/
def waitOn (q : Nat) (o : Oper) : Oper := { o with after := o.after.push ⟨q, .data⟩ }
def withEdge (ops : Array Oper) (x q : Nat) : Array Oper := ops.modify x (waitOn q)
theorem getElem_edge (x q i : Nat) : (withEdge ops x q)[i]? = (ops[i]?).map fun o => if x = i then waitOn q o else o := by
  unfold withEdge
  rw [Array.getElem?_modify]
  split
  · rename_i h; subst h; simp
  · rename_i h; simp
theorem wanted_wait (q : Nat) (o : Oper) (y : Nat → Option Bool) : Region.wanted (waitOn q o) y = Region.wanted o y := rfl
theorem exec_wait (q : Nat) (o : Oper) (ρ : Operand → Value) : execOp ρ (waitOn q o) = execOp ρ o := rfl
theorem yielded_edge (x q : Nat) (tmps : Array Value) : yielded (withEdge ops x q) tmps = yielded ops tmps := by
  funext j
  unfold yielded
  rw [getElem_edge]
  cases ops[j]? with
  | none => rfl
  | some o =>
    simp only [Option.map_some, Option.bind_some]
    by_cases h : x = j
    · rw [if_pos h]; rfl
    · rw [if_neg h]
theorem wpOp_edge {x q i : Nat} {K : Act → World → Prop} {a : Act} {w : World} : wpOp P (withEdge ops x q) Q i K a w = wpOp P ops Q i K a w := by
  unfold wpOp
  rw [getElem_edge]
  cases ops[i]? with
  | none => rfl
  | some o =>
    simp only [Option.map_some]
    split
    · rename_i h; subst h
      simp only [wanted_wait, yielded_edge]
      rfl
    · simp only [yielded_edge]

/-- An operation that only takes a tuple apart. -/
def isExtract (o : Oper) : Bool := match o.op, o.guard with | .extract _ _, none => true | _, _ => false
theorem extract_yields {q : Nat} {o : Oper} (ho : ops[q]? = some o) (he : isExtract o = true) {K : Act → World → Prop} {a : Act} {w : World} (h : wpOp P ops Q q K a w) :
    ∃ v, Yields P ops o v a ∧ K (a.put o.dst v) w := by
  obtain ⟨dst, op, ty, pos, after, guard⟩ := o
  unfold isExtract at he
  cases op <;> simp only at he <;> try cases he
  rename_i t ix
  cases guard with
  | some g => cases he
  | none =>
    unfold wpOp at h
    simp only [ho] at h
    have hw : Region.wanted ⟨dst, .extract t ix, ty, pos, after, none⟩ (yielded ops a.tmps) = true := rfl
    rw [if_pos hw] at h
    have key : (∃ v, execOp a.eval ⟨dst, .extract t ix, ty, pos, after, none⟩ = Sem.pure (.value v)) ∨ ∃ s, execOp a.eval ⟨dst, .extract t ix, ty, pos, after, none⟩ = Sem.halt (.stuck s) := by
      show (∃ v, (do return Next.value (← Instr.extract (a.eval t) ix)) = Sem.pure (.value v)) ∨ ∃ s, (do return Next.value (← Instr.extract (a.eval t) ix)) = Sem.halt (.stuck s)
      unfold Instr.extract
      cases a.eval t with
      | tuple vs =>
        simp only
        cases vs[ix]? with
        | none => exact .inr ⟨_, rfl⟩
        | some v => exact .inl ⟨v, rfl⟩
      | _ => exact .inr ⟨_, rfl⟩
    rcases key with ⟨v, hv⟩ | ⟨s, hs⟩
    · refine ⟨v, .inl ⟨hw, fun w' => by rw [hv]; rfl⟩, ?_⟩
      rcases h with h | h
      · unfold Oper.wp at h
        rw [hv] at h
        exact h
      · obtain ⟨⟨h1, _⟩, _⟩ := h
        rw [hv] at h1
        exact absurd h1 (by intro hh; cases hh; rename_i hh; cases hh)
    · rcases h with h | h
      · unfold Oper.wp at h
        rw [hs] at h
        exact h.elim
      · obtain ⟨⟨h1, _⟩, _⟩ := h
        rw [hs] at h1
        exact absurd h1 (by intro hh; cases hh; rename_i hh; cases hh)

/-- What is asked of the edge. -/
def edgeB (md : Region.Mode) (ops : Array Oper) (x q : Nat) : Bool :=
  match ops[q]?, ops[x]? with
  | some oq, some ox => isExtract oq && decide (x ≠ q) && Region.binds md ⟨q, .data⟩ && Region.noSelect ops &&
      oq.after.all (fun e => !Region.binds md e || ox.after.any fun e' => Region.binds md e' && e'.on == e.on) &&
      (List.range ops.size).all fun j => j == q || match ops[j]? with
        | some oj => (oj.after.any (fun e => Region.binds md e && e.on == q) || oq.after.any (fun e => Region.binds md e && e.on == j)) || oq.apart ops oj
        | none => true
  | _, _ => false
theorem edge_spec {md : Region.Mode} {x q : Nat} (h : edgeB md ops x q = true) : ∃ oq ox, ops[q]? = some oq ∧ ops[x]? = some ox ∧ isExtract oq = true ∧ x ≠ q ∧ Region.binds md ⟨q, .data⟩ = true ∧ Region.noSelect ops = true ∧
    (∀ e ∈ oq.after, Region.binds md e = true → ∃ e' ∈ ox.after, Region.binds md e' = true ∧ e'.on = e.on) ∧
    ∀ j oj, ops[j]? = some oj → j ≠ q → (∀ e ∈ oj.after, Region.binds md e = true → e.on ≠ q) → (∀ e ∈ oq.after, Region.binds md e = true → e.on ≠ j) → oq.apart ops oj = true := by
  unfold edgeB at h
  cases hq : ops[q]? with
  | none => rw [hq] at h; cases h
  | some oq =>
    cases hx : ops[x]? with
    | none => rw [hq, hx] at h; cases h
    | some ox =>
      rw [hq, hx] at h
      simp only [Bool.and_eq_true, decide_eq_true_eq] at h
      obtain ⟨⟨⟨⟨⟨h1, h2⟩, h3⟩, h4⟩, h5⟩, h6⟩ := h
      refine ⟨oq, ox, rfl, rfl, h1, h2, h3, h4, fun e he hb => ?_, fun j oj hj hne hno hnq => ?_⟩
      · have := Array.all_eq_true_iff_forall_mem.1 h5 e he
        simp only [hb, Bool.not_true, Bool.false_or] at this
        obtain ⟨e', he', h'⟩ := Array.any_eq_true'.1 this
        simp only [Bool.and_eq_true, beq_iff_eq] at h'
        exact ⟨e', he', h'.1, h'.2⟩
      · have := List.all_eq_true.1 h6 j (List.mem_range.2 (Array.getElem?_eq_some_iff.1 hj).1)
        simp only [hj, Bool.or_eq_true, beq_iff_eq, hne, false_or] at this
        rcases this with (h' | h') | h'
        · obtain ⟨e, he, hb⟩ := Array.any_eq_true'.1 h'
          simp only [Bool.and_eq_true, beq_iff_eq] at hb
          exact absurd hb.2 (hno e he hb.1)
        · obtain ⟨e, he, hb⟩ := Array.any_eq_true'.1 h'
          simp only [Bool.and_eq_true, beq_iff_eq] at hb
          exact absurd hb.2 (hnq e he hb.1)
        · exact h'

theorem ready_edge {md : Region.Mode} {x q j : Nat} {listed : Array Bool} (h : edgeB md ops x q = true) :
    j ∈ Region.ready md (withEdge ops x q) listed ↔ j ∈ Region.ready md ops listed ∧ (j = x → listed.getD q false = true) := by
  obtain ⟨oq, ox, _, hx, _, _, hb, _, _, _⟩ := edge_spec h
  rw [mem_ready, mem_ready]
  constructor
  · rintro ⟨h1, o, ho, h2⟩
    rw [getElem_edge] at ho
    cases hj : ops[j]? with
    | none => rw [hj] at ho; cases ho
    | some o' =>
      rw [hj] at ho
      have ho' : (if x = j then waitOn q o' else o') = o := by simpa using ho
      by_cases hxj : x = j
      · rw [if_pos hxj] at ho'
        subst ho'
        exact ⟨⟨h1, o', rfl, fun e he => h2 e (Array.mem_push.2 (.inl he))⟩, fun _ => h2 ⟨q, .data⟩ (Array.mem_push.2 (.inr rfl)) hb⟩
      · rw [if_neg hxj] at ho'
        subst ho'
        exact ⟨⟨h1, o', rfl, h2⟩, fun e => absurd e.symm hxj⟩
  · rintro ⟨⟨h1, o, ho, h2⟩, h3⟩
    refine ⟨h1, if x = j then waitOn q o else o, by rw [getElem_edge, ho]; rfl, fun e he hbe => ?_⟩
    by_cases hxj : x = j
    · rw [if_pos hxj] at he
      rcases Array.mem_push.1 he with he | rfl
      · exact h2 e he hbe
      · exact h3 hxj.symm
    · rw [if_neg hxj] at he
      exact h2 e he hbe

theorem wpAny_edge {md : Region.Mode} {x q : Nat} (hB : edgeB md ops x q = true) (hQ : ∀ d v c a w, Q (.panic c) (Act.put a d v) w → Q (.panic c) a w) :
    ∀ (fuel : Nat) (listed : Array Bool) (a : Act) (w : World), listed.size = ops.size → wpAny P md (withEdge ops x q) Q fuel listed a w → wpAny P md ops Q fuel listed a w := by
  obtain ⟨oq, ox, hq, hx, he, hne, hb, hsel, hdep, hap⟩ := edge_spec hB
  -- if q isn't ready and x is, q has come up
  have hqx : ∀ listed : Array Bool, listed.size = ops.size → q ∉ Region.ready md ops listed → x ∈ Region.ready md ops listed → listed.getD q false = true := by
    intro listed hsz hnq hxr
    obtain ⟨_, o, ho, hall⟩ := mem_ready.1 hxr
    have : o = ox := Option.some.inj (ho.symm.trans hx)
    subst this
    cases hl : listed.getD q true with
    | false =>
      exfalso
      refine hnq (mem_ready.2 ⟨hl, oq, hq, fun e hee hbe => ?_⟩)
      obtain ⟨e', he', hb', hon⟩ := hdep e hee hbe
      rw [← hon]
      exact hall e' he' hb'
    | true =>
      rcases Nat.lt_or_ge q listed.size with h' | h'
      · simp [h'] at hl ⊢; exact hl
      · exfalso
        have := (Array.getElem?_eq_some_iff.1 hq).1
        omega
  have hsame : ∀ listed : Array Bool, listed.size = ops.size → q ∉ Region.ready md ops listed → ∀ j, j ∈ Region.ready md (withEdge ops x q) listed ↔ j ∈ Region.ready md ops listed := fun listed hsz hqr j =>
    (ready_edge hB).trans ⟨fun h => h.1, fun h => ⟨h, fun e => hqx listed hsz hqr (e ▸ h)⟩⟩
  have hin : ∀ listed, q ∈ Region.ready md ops listed → q ∈ Region.ready md (withEdge ops x q) listed := fun listed hqr => (ready_edge hB).2 ⟨hqr, fun e => absurd e.symm hne⟩
  have hnil : ∀ l : List Nat, (∀ j, j ∉ l) → l = [] := fun l h => by
    cases l with
    | nil => rfl
    | cons y ys => exact absurd (List.mem_cons_self ..) (h y)
  intro fuel
  induction fuel with
  | zero =>
    intro listed a w hsz h
    refine ⟨hnil _ fun j hj => ?_, h.2⟩
    by_cases hqr : q ∈ Region.ready md ops listed
    · have := hin listed hqr
      rw [h.1] at this
      cases this
    · have := (hsame listed hsz hqr j).2 hj
      rw [h.1] at this
      cases this
  | succ fuel ih =>
    intro listed a w hsz h
    by_cases hqr : q ∈ Region.ready md ops listed
    · have h1 := h.2 q (hin listed hqr)
      rw [wpOp_edge] at h1
      obtain ⟨v, hy, hK⟩ := extract_yields hq he h1
      exact wpAny_first hq (Region.noSelect_spec hsel) (fun c a w => hQ oq.dst v c a w) fuel listed a w (fun j oj hj hjn hjl hno => hap j oj hj hjn hno fun e hee hbe hon => by
        obtain ⟨_, o2, ho2, hall⟩ := mem_ready.1 hqr
        have : o2 = oq := Option.some.inj (ho2.symm.trans hq)
        subst this
        have := hall e hee hbe
        rw [hon] at this
        rcases Nat.lt_or_ge j listed.size with h' | h'
        · simp [h'] at this hjl
          rw [this] at hjl
          cases hjl
        · have hn := Array.getElem?_eq_none h'
          simp [Array.getD_eq_getD_getElem?, hn] at this) hqr hy (ih _ _ _ (by simpa using hsz) hK)
    · refine ⟨fun h0 => h.1 (hnil _ fun j hj => ?_), fun i hi => ?_⟩
      · have := (hsame listed hsz hqr j).1 hj
        rw [h0] at this
        cases this
      · have h1 := h.2 i ((hsame listed hsz hqr i).2 hi)
        rw [wpOp_edge] at h1
        exact wpOp_mono (fun a' w' h' => ih _ _ _ (by simpa using hsz) h') h1

/-! The same walks, over the region as it is. -/
theorem wpGrow_edge {w0 : World} {x q : Nat} {L L' : Act → Prop} (hL : ∀ a, L a → L' a) : ∀ (ks : List Nat) (a : Act), (∀ k ∈ ks, k < ops.size) → wpGrow P ops w0 L (ks.map fun k => ops[k]?.getD default) a →
    wpGrow P (withEdge ops x q) w0 L' (ks.map fun k => (withEdge ops x q)[k]?.getD default) a
  | [], a, _, h => hL a h
  | k :: ks, a, hk, h => by
    have hkl := hk k (List.mem_cons_self ..)
    have ho : ops[k]? = some ops[k] := Array.getElem?_eq_getElem hkl
    simp only [List.map_cons, getElem_edge, ho, Option.map_some, Option.getD_some] at h ⊢
    have ih := fun a' => wpGrow_edge (w0 := w0) (x := x) (q := q) (L := L) (L' := L') hL ks a' (fun j hj => hk j (List.mem_cons_of_mem _ hj))
    have e1 : Region.wanted (if x = k then waitOn q ops[k] else ops[k]) = Region.wanted ops[k] := by split <;> rfl
    have e2 : ∀ ρ, execOp ρ (if x = k then waitOn q ops[k] else ops[k]) = execOp ρ ops[k] := fun ρ => by split <;> rfl
    have e3 : (if x = k then waitOn q ops[k] else ops[k]).dst = ops[k].dst := by split <;> rfl
    unfold wpGrow at h ⊢
    rw [e1, yielded_edge, e3]
    by_cases hw : Region.wanted ops[k] (yielded ops a.tmps) = true
    · rw [if_pos hw] at h ⊢
      obtain ⟨v, h1, h2⟩ := h
      refine ⟨v, ?_, ?_⟩
      · unfold Oper.growAt at *
        rw [e2]
        exact h1
      · have := ih _ h2
        simpa only [getElem_edge] using this
    · rw [if_neg hw] at h ⊢
      have := ih _ h
      simpa only [getElem_edge] using this
theorem wpLays_edge {w0 : World} {x q : Nat} {L L' : Act → Laid → Prop} (hL : ∀ a F, L a F → L' a F) : ∀ (js : Lays) (a : Act) (F : Laid), wpLays P ops w0 L js a F → wpLays P (withEdge ops x q) w0 L' js a F
  | [], a, F, h => hL a F h
  | y :: js, a, F, ⟨o, h1, h2, h3, h4⟩ => by
    refine ⟨if x = y.1 then waitOn q o else o, by rw [getElem_edge, h1]; rfl, ?_, ?_, fun b => ?_⟩
    · rw [yielded_edge]; split <;> exact h2
    · unfold Oper.freshAt at *; split <;> exact h3
    · have := wpLays_edge (x := x) (q := q) hL js _ _ (h4 b)
      split <;> exact this
theorem wpList_edge {x q : Nat} : ∀ (l l' : List Oper) (a : Act) (w : World), l'.length = l.length → (∀ (i : Nat) (o : Oper), l[i]? = some o → ∃ o', l'[i]? = some o' ∧ (o' = o ∨ o' = waitOn q o)) → wpList P ops Q l a w → wpList P (withEdge ops x q) Q l' a w
  | [], [], _, _, _, _, h => h
  | [], _ :: _, _, _, hl, _, _ => by simp at hl
  | _ :: _, [], _, _, hl, _, _ => by simp at hl
  | o :: l, o' :: l', a, w, hl, he, h => by
    obtain ⟨o2, ho2, ho'⟩ := he 0 o rfl
    have : o' = o2 := by simpa using ho2
    subst this
    have ih := fun a' w' => wpList_edge (x := x) (q := q) l l' a' w' (by simpa using hl) (fun i o hi => by have := he (i + 1) o (by simpa using hi); simpa using this)
    unfold wpList at h ⊢
    rw [yielded_edge]
    rcases ho' with rfl | rfl
    · split
      · rename_i hw
        rw [if_pos hw] at h
        exact h.imp (Oper.wp_mono ih) id
      · rename_i hw
        rw [if_neg hw] at h
        exact ih _ _ h
    · rw [wanted_wait]
      split
      · rename_i hw
        rw [if_pos hw] at h
        refine h.imp (fun h => ?_) id
        exact Oper.wp_mono (o := o) ih h
      · rename_i hw
        rw [if_neg hw] at h
        exact ih _ _ h

/-- ONE WALK, as 'wp_region_fresh', where an 'extract' (q) may come up late: x, of the tail, is taken to wait for it. -/
theorem wp_region_fresh_edge {id : Nat} {a : Act} {w : World} {l : List Oper} (x q n : Nat) (ks : List Nat) (js : Lays) (hm : P.follows .mixedOrders = true)
    (hE : edgeB .any l.toArray x q = true) (hB : freshB .any (withEdge l.toArray x q) n ks (js.map (·.1)) = true) (hks : ks.all (fun k => decide (k < l.toArray.size)) = true) (hlen : ks.length + js.length = n)
    (hQ : ∀ d v c a w, Q (.panic c) (Act.put a d v) w → Q (.panic c) a w)
    (h : wpGrow P l.toArray w (fun a' => wpLays P l.toArray w (fun a2 F => ∀ w', Below w.heap.size w w' → (∀ x ∈ F, w.heap.size ≤ x.1 ∧ x.1 < w'.heap.size ∧ w'.heap[x.1]? = some x.2) → F.Pairwise (fun x y => x.1 ≠ y.1) → wpList P l.toArray Q (l.drop n) a2 w') js a' [])
      (ks.map fun k => l.toArray[k]?.getD default) a) : (Code.region id l.toArray true).wp P Q a w := by
  refine wp_region_any hm (wpAny_edge hE hQ _ _ _ _ (by simp) ?_)
  have hB0 := hB
  simp only [freshB, Bool.and_eq_true, decide_eq_true_eq] at hB
  obtain ⟨⟨⟨⟨hsel, hn⟩, hs⟩, hc⟩, hgo⟩ := hB
  have hsz : (withEdge l.toArray x q).size = l.toArray.size := by unfold withEdge; simp
  rw [hsz] at hn hgo
  have hdl : ((withEdge l.toArray x q).toList.drop n).length = l.toArray.size - n := by rw [List.length_drop, Array.length_toList, hsz]
  have inv0 : HeadInv .any (withEdge l.toArray x q) n (Array.replicate l.toArray.size false) :=
    ⟨by rw [hsz]; simp, fun j oj _ hl => (by rw [getD_replicate_false] at hl; cases hl), fun t _ ht => getD_in (by rw [hsz] at ht; simpa using ht) (getD_replicate_false _ _)⟩
  have hpw : ∀ (a : Act) (F F' : Laid), F.Perm F' → (∀ w', Below w.heap.size w w' → (∀ x ∈ F, w.heap.size ≤ x.1 ∧ x.1 < w'.heap.size ∧ w'.heap[x.1]? = some x.2) → F.Pairwise (fun x y => x.1 ≠ y.1) → wpList P (withEdge l.toArray x q) Q ((withEdge l.toArray x q).toList.drop n) a w') →
      (∀ w', Below w.heap.size w w' → (∀ x ∈ F', w.heap.size ≤ x.1 ∧ x.1 < w'.heap.size ∧ w'.heap[x.1]? = some x.2) → F'.Pairwise (fun x y => x.1 ≠ y.1) → wpList P (withEdge l.toArray x q) Q ((withEdge l.toArray x q).toList.drop n) a w') :=
    fun a F F' hp hq w' hb hx hpw => hq w' hb (fun x hxF => hx x (hp.mem_iff.1 hxF)) ((hp.pairwise_iff (fun {x y} h => Ne.symm h)).2 hpw)
  have h' := wpGrow_edge (x := x) (q := q) (fun a' => wpLays_edge (x := x) (q := q) (L' := fun a2 F => ∀ w', Below w.heap.size w w' → (∀ x ∈ F, w.heap.size ≤ x.1 ∧ x.1 < w'.heap.size ∧ w'.heap[x.1]? = some x.2) → F.Pairwise (fun x y => x.1 ≠ y.1) → wpList P (withEdge l.toArray x q) Q ((withEdge l.toArray x q).toList.drop n) a2 w')
    (fun a2 F hf w' hb hx hp => wpList_edge _ _ _ _ (by simp [hsz]) (fun i o hi => by
      rw [List.getElem?_drop] at hi
      refine ⟨if x = n + i then waitOn q o else o, ?_, by split; exact .inr rfl; exact .inl rfl⟩
      rw [List.getElem?_drop, Array.getElem?_toList, getElem_edge, List.getElem?_toArray, hi]
      rfl) (hf w' hb hx hp)) js a' []) ks a (fun k hk => of_decide_eq_true (List.all_eq_true.1 hks k hk)) h
  have H := headG_go (md := .any) (g := l.toArray.size - n) hpw hsel hs hc (by rw [hsz]; exact hn) js ks _ a [] inv0 hgo h'
  have := any_of_headG (Q' := Q) (g := l.toArray.size - n) (w0 := w) (fun listed a' F w' hI hL => by
    have := wpAny_of_seq (md := .any) (Q' := Q) ((withEdge l.toArray x q).toList.drop n) n listed a' w' (fun j => by rw [List.getElem?_drop, Array.getElem?_toList]) (by rw [hdl]; exact hL.1) (hL.2 w' hI.1 hI.2.1 hI.2.2)
    rwa [hdl] at this) _ _ _ _ { w with drawn := w.drawn + 1 } ⟨(Below.refl _ w).drew, fun x hx => (by cases hx), List.Pairwise.nil⟩ H
  rw [hlen, show n + (l.toArray.size - n) = l.toArray.size by omega] at this
  exact this
end
end Go.Proofs.Ytjlnkghjiaglmaa
