/-
  The frame of a law's row: a call that returns true and leaves what was there as it was meets the law's specification.
  Conditions: the law's parameters are of readable types.
-/
import Derived.Test.YtnfcigbiebbjdaaRows
import Derived.Test.YtnfcigbiebbjdaaKit
import Derived.Test.YtnfcigbiebbjdaaSeat
import Derived.ProofKit
import Derived.OpenShut
namespace Go.Proofs.Ytnfcigbiebbjdaa
open Go.ChangeShapes Go.WideShapes Go.ChangeAt Go.RowKit

theorem Try.own : ownKnob Try.prog.godebug = none := by kernel_rfl
theorem Try.laidOut : laidOutB Try.prog = true := by kernel_rfl

theorem trodAll_below {H : Type} {enc : TypeId × Value → H} {P : Program} (hl : laidOutB P = true) {W W' : World} (hb : Below W.heap.size W W') :
    ∀ {ts : List TypeId} {vs : List Value} {ds : List (DataW H)} {ps : List MemPlace}, (∀ t ∈ ts, P.readableRec t = true ∧ t < P.types.size) → (∀ x ∈ ps, x.block < W.heap.size) →
      DataW.TrodAll enc P W 0 (fun _ => true) true ts vs ds ps → DataW.TrodAll enc P W' 0 (fun b => decide (b < W.heap.size)) true ts vs ds ps
  | [], [], [], _, _, _, h => h
  | t :: _, _ :: _, _ :: _, _, hT, hlt, ⟨p, q, h1, h2, e⟩ =>
    ⟨p, q, Below.trod hl (hT t (List.mem_cons.2 (Or.inl rfl))).1 (hT t (List.mem_cons.2 (Or.inl rfl))).2 h1 hb (fun x hx => hlt x (by rw [e]; exact List.mem_append_left _ hx)),
      trodAll_below hl hb (fun t ht => hT t (List.mem_cons.2 (Or.inr ht))) (fun x hx => hlt x (by rw [e]; exact List.mem_append_right _ hx)) h2, e⟩

section
variable {H : Type} {enc : TypeId × Value → H}
theorem law_post {f : Func} {s : ChangeSpec} {W W' : World} {args : Array Value} {ds gs : List (DataW H)} {before : List MemPlace} (hv : s.vars = [])
    (hr : f.resultTypes = #[4]) (hT : f.params.toList.all (fun t => Try.prog.readableRec t && decide (t < Try.prog.types.size)) = true)
    (hW : DataW.Whole enc Try.prog f.params.toList s.vars false W args.toList ds gs before)
    (hs : (s.fn H (ds ++ gs)).results = [.lit (.bool true)]) (ha : (s.fn H (ds ++ gs)).args = ds) (hvs : (s.fn H (ds ++ gs)).vars = []) (hb : Below W.heap.size W W') :
    s.post enc Try.prog f false true false false W args (.bool true) W' := by
  have hlt : ∀ p ∈ before, p.block < W.heap.size := fun p hp => hW.lt p hp
  have hT' : ∀ t ∈ f.params.toList, Try.prog.readableRec t = true ∧ t < Try.prog.types.size := fun t ht => by
    have := List.all_eq_true.1 hT t ht
    simpa using this
  have hW' := hW
  obtain ⟨p, q, hA, hV, rfl, _, _⟩ := hW
  rw [hv] at hV
  match gs, hV with
  | [], hV =>
    obtain ⟨_, rfl⟩ := trodVars_none hV
    simp only [List.append_nil] at hlt hW'
    refine ⟨ds, [], p, [], p, [], hW', ?_, ?_, ?_, hb.frame _, fun h => by cases h⟩
    · rw [hs, hr]
      exact trodAll_mk1 (shut_bool Try.underlying4 true)
    · rw [ha]
      exact trodAll_below Try.laidOut hb hT' hlt hA
    · rw [hv, hvs]
      exact rfl
  | _ :: _, hV => exact hV.elim
end
end Go.Proofs.Ytnfcigbiebbjdaa
