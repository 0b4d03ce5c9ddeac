/-
  The seat's texts Seat Frame OpenI OpenJ in one: the contracts of the functions that the law reaches, and the plain laws that they rest on.
  Conditions: as each theorem states them.
-/
import Derived.Test.YtnfcigbiebbjdaaRows
import Derived.ProofKit
import Derived.Test.YtnfcigbiebbjdaaG1
import Derived.OpenShut
import Derived.Lib.SmallJoins
import Derived.Deep.Slices
import Derived.Test.YtnfcigbiebbjdaaG7
namespace Go.Proofs.Ytnfcigbiebbjdaa
theorem and_t {a b : Bool} (ha : a = true) (hb : b = true) : (a && b) = true := by rw [ha, hb]; rfl
set_option maxRecDepth 100000 in
theorem Try.head : Try.prog.initOrder = String.ofList (([104, 97, 114, 110, 101, 115, 115, 32, 55, 56, 57, 99, 99, 50, 57, 102, 50, 99, 102, 49, 101, 56, 54, 57, 48, 101, 54, 57, 48, 48, 51, 54, 100, 51, 102, 50, 102, 54, 102, 52, 56,
    98, 53, 55, 56, 97, 54, 100, 54, 54, 100, 100, 53, 54, 51, 49, 49, 55, 98, 102, 56, 55, 51, 54, 98, 100, 56, 102, 56, 55, 50, 100, 32, 99, 117, 116, 32, 97, 116, 32, 116, 111, 117,
    114, 98, 105, 108, 108, 111, 110, 47, 116, 111, 117, 114, 98, 105, 108, 108, 111, 110, 108, 97, 119, 48, 55, 46, 81, 117, 101, 117, 101, 83, 109, 105, 116, 104, 76, 101, 97, 115,
    116, 32, 116, 111, 117, 114, 98, 105, 108, 108, 111, 110, 47, 116, 111, 117, 114, 98, 105, 108, 108, 111, 110, 108, 97, 119, 48, 55, 46, 81, 117, 101, 117, 101, 74, 111, 104, 110,
    115, 111, 110, 76, 101, 97, 115, 116, 32, 116, 111, 117, 114, 98, 105, 108, 108, 111, 110, 47, 116, 111, 117, 114, 98, 105, 108, 108, 111, 110, 108, 97, 119, 48, 55, 46, 81, 117,
    101, 117, 101, 83, 109, 105, 116, 104, 115, 32, 116, 111, 117, 114, 98, 105, 108, 108, 111, 110, 47, 116, 111, 117, 114, 98, 105, 108, 108, 111, 110, 108, 97, 119, 48, 55, 46, 81,
    117, 101, 117, 101, 76, 97, 119, 108, 101, 114, 76, 101, 97, 115, 116, 32, 116, 111, 117, 114, 98, 105, 108, 108, 111, 110, 47, 116, 111, 117, 114, 98, 105, 108, 108, 111, 110,
    116, 111, 112, 46, 84, 111, 112, 66, 101, 110, 99, 104, 101, 115, 32, 116, 111, 117, 114, 98, 105, 108, 108, 111, 110, 47, 116, 111, 117, 114, 98, 105, 108, 108, 111, 110, 108, 97,
    119, 48, 55, 46, 81, 117, 101, 117, 101, 76, 97, 116, 101, 114, 32, 116, 111, 117, 114, 98, 105, 108, 108, 111, 110, 47, 116, 111, 117, 114, 98, 105, 108, 108, 111, 110, 108, 97,
    119, 48, 55, 46, 81, 117, 101, 117, 101, 83, 119, 101, 101, 112, 115, 32, 116, 111, 117, 114, 98, 105, 108, 108, 111, 110, 47, 116, 111, 117, 114, 98, 105, 108, 108, 111, 110, 108,
    97, 119, 48, 55, 46, 81, 117, 101, 117, 101, 83, 119, 101, 101, 112, 80, 114, 111, 111, 102, 32, 116, 111, 117, 114, 98, 105, 108, 108, 111, 110, 47, 116, 111, 117, 114, 98, 105,
    108, 108, 111, 110, 108, 97, 119, 48, 55, 46, 81, 117, 101, 117, 101, 74, 111, 104, 110, 115, 111, 110, 115, 32, 116, 111, 117, 114, 98, 105, 108, 108, 111, 110, 47, 116, 111, 117,
    114, 98, 105, 108, 108, 111, 110, 108, 97, 119, 48, 55, 46, 81, 117, 101, 117, 101, 79, 110, 84, 105, 109, 101, 115, 32, 116, 111, 117, 114, 98, 105, 108, 108, 111, 110, 47, 116,
    111, 117, 114, 98, 105, 108, 108, 111, 110, 108, 97, 119, 48, 55, 46, 81, 117, 101, 117, 101, 79, 114, 100, 101, 114, 115, 32, 116, 111, 117, 114, 98, 105, 108, 108, 111, 110, 47,
    116, 111, 117, 114, 98, 105, 108, 108, 111, 110, 108, 97, 119, 48, 55, 46, 81, 117, 101, 117, 101, 79, 110, 84, 105, 109, 101, 77, 111, 115, 116, 32, 116, 111, 117, 114, 98, 105,
    108, 108, 111, 110, 47, 116, 111, 117, 114, 98, 105, 108, 108, 111, 110, 108, 97, 119, 48, 55, 46, 81, 117, 101, 117, 101, 77, 111, 114, 101] : List Nat).map Char.ofNat) := by kernel_rfl
set_option maxRecDepth 100000 in
theorem Try.signs : Try.prog.initOrder.toList = ([104, 97, 114, 110, 101, 115, 115, 32, 55, 56, 57, 99, 99, 50, 57, 102, 50, 99, 102, 49, 101, 56, 54, 57, 48, 101, 54, 57, 48, 48, 51, 54, 100, 51, 102, 50, 102, 54, 102, 52, 56,
    98, 53, 55, 56, 97, 54, 100, 54, 54, 100, 100, 53, 54, 51, 49, 49, 55, 98, 102, 56, 55, 51, 54, 98, 100, 56, 102, 56, 55, 50, 100, 32, 99, 117, 116, 32, 97, 116, 32, 116, 111, 117,
    114, 98, 105, 108, 108, 111, 110, 47, 116, 111, 117, 114, 98, 105, 108, 108, 111, 110, 108, 97, 119, 48, 55, 46, 81, 117, 101, 117, 101, 83, 109, 105, 116, 104, 76, 101, 97, 115,
    116, 32, 116, 111, 117, 114, 98, 105, 108, 108, 111, 110, 47, 116, 111, 117, 114, 98, 105, 108, 108, 111, 110, 108, 97, 119, 48, 55, 46, 81, 117, 101, 117, 101, 74, 111, 104, 110,
    115, 111, 110, 76, 101, 97, 115, 116, 32, 116, 111, 117, 114, 98, 105, 108, 108, 111, 110, 47, 116, 111, 117, 114, 98, 105, 108, 108, 111, 110, 108, 97, 119, 48, 55, 46, 81, 117,
    101, 117, 101, 83, 109, 105, 116, 104, 115, 32, 116, 111, 117, 114, 98, 105, 108, 108, 111, 110, 47, 116, 111, 117, 114, 98, 105, 108, 108, 111, 110, 108, 97, 119, 48, 55, 46, 81,
    117, 101, 117, 101, 76, 97, 119, 108, 101, 114, 76, 101, 97, 115, 116, 32, 116, 111, 117, 114, 98, 105, 108, 108, 111, 110, 47, 116, 111, 117, 114, 98, 105, 108, 108, 111, 110,
    116, 111, 112, 46, 84, 111, 112, 66, 101, 110, 99, 104, 101, 115, 32, 116, 111, 117, 114, 98, 105, 108, 108, 111, 110, 47, 116, 111, 117, 114, 98, 105, 108, 108, 111, 110, 108, 97,
    119, 48, 55, 46, 81, 117, 101, 117, 101, 76, 97, 116, 101, 114, 32, 116, 111, 117, 114, 98, 105, 108, 108, 111, 110, 47, 116, 111, 117, 114, 98, 105, 108, 108, 111, 110, 108, 97,
    119, 48, 55, 46, 81, 117, 101, 117, 101, 83, 119, 101, 101, 112, 115, 32, 116, 111, 117, 114, 98, 105, 108, 108, 111, 110, 47, 116, 111, 117, 114, 98, 105, 108, 108, 111, 110, 108,
    97, 119, 48, 55, 46, 81, 117, 101, 117, 101, 83, 119, 101, 101, 112, 80, 114, 111, 111, 102, 32, 116, 111, 117, 114, 98, 105, 108, 108, 111, 110, 47, 116, 111, 117, 114, 98, 105,
    108, 108, 111, 110, 108, 97, 119, 48, 55, 46, 81, 117, 101, 117, 101, 74, 111, 104, 110, 115, 111, 110, 115, 32, 116, 111, 117, 114, 98, 105, 108, 108, 111, 110, 47, 116, 111, 117,
    114, 98, 105, 108, 108, 111, 110, 108, 97, 119, 48, 55, 46, 81, 117, 101, 117, 101, 79, 110, 84, 105, 109, 101, 115, 32, 116, 111, 117, 114, 98, 105, 108, 108, 111, 110, 47, 116,
    111, 117, 114, 98, 105, 108, 108, 111, 110, 108, 97, 119, 48, 55, 46, 81, 117, 101, 117, 101, 79, 114, 100, 101, 114, 115, 32, 116, 111, 117, 114, 98, 105, 108, 108, 111, 110, 47,
    116, 111, 117, 114, 98, 105, 108, 108, 111, 110, 108, 97, 119, 48, 55, 46, 81, 117, 101, 117, 101, 79, 110, 84, 105, 109, 101, 77, 111, 115, 116, 32, 116, 111, 117, 114, 98, 105,
    108, 108, 111, 110, 47, 116, 111, 117, 114, 98, 105, 108, 108, 111, 110, 108, 97, 119, 48, 55, 46, 81, 117, 101, 117, 101, 77, 111, 114, 101] : List Nat).map Char.ofNat := by rw [Try.head, String.toList_ofList]
set_option maxRecDepth 100000 in
theorem Try.words : ∃ r, behindMainWord (wordsSigns Try.prog.initOrder.toList) = (([99, 117, 116] : List Nat).map Char.ofNat) :: r :=
  ⟨(behindMainWord (wordsSigns (([104, 97, 114, 110, 101, 115, 115, 32, 55, 56, 57, 99, 99, 50, 57, 102, 50, 99, 102, 49, 101, 56, 54, 57, 48, 101, 54, 57, 48, 48, 51, 54, 100, 51, 102, 50, 102, 54, 102, 52, 56,
    98, 53, 55, 56, 97, 54, 100, 54, 54, 100, 100, 53, 54, 51, 49, 49, 55, 98, 102, 56, 55, 51, 54, 98, 100, 56, 102, 56, 55, 50, 100, 32, 99, 117, 116, 32, 97, 116, 32, 116, 111, 117,
    114, 98, 105, 108, 108, 111, 110, 47, 116, 111, 117, 114, 98, 105, 108, 108, 111, 110, 108, 97, 119, 48, 55, 46, 81, 117, 101, 117, 101, 83, 109, 105, 116, 104, 76, 101, 97, 115,
    116, 32, 116, 111, 117, 114, 98, 105, 108, 108, 111, 110, 47, 116, 111, 117, 114, 98, 105, 108, 108, 111, 110, 108, 97, 119, 48, 55, 46, 81, 117, 101, 117, 101, 74, 111, 104, 110,
    115, 111, 110, 76, 101, 97, 115, 116, 32, 116, 111, 117, 114, 98, 105, 108, 108, 111, 110, 47, 116, 111, 117, 114, 98, 105, 108, 108, 111, 110, 108, 97, 119, 48, 55, 46, 81, 117,
    101, 117, 101, 83, 109, 105, 116, 104, 115, 32, 116, 111, 117, 114, 98, 105, 108, 108, 111, 110, 47, 116, 111, 117, 114, 98, 105, 108, 108, 111, 110, 108, 97, 119, 48, 55, 46, 81,
    117, 101, 117, 101, 76, 97, 119, 108, 101, 114, 76, 101, 97, 115, 116, 32, 116, 111, 117, 114, 98, 105, 108, 108, 111, 110, 47, 116, 111, 117, 114, 98, 105, 108, 108, 111, 110,
    116, 111, 112, 46, 84, 111, 112, 66, 101, 110, 99, 104, 101, 115, 32, 116, 111, 117, 114, 98, 105, 108, 108, 111, 110, 47, 116, 111, 117, 114, 98, 105, 108, 108, 111, 110, 108, 97,
    119, 48, 55, 46, 81, 117, 101, 117, 101, 76, 97, 116, 101, 114, 32, 116, 111, 117, 114, 98, 105, 108, 108, 111, 110, 47, 116, 111, 117, 114, 98, 105, 108, 108, 111, 110, 108, 97,
    119, 48, 55, 46, 81, 117, 101, 117, 101, 83, 119, 101, 101, 112, 115, 32, 116, 111, 117, 114, 98, 105, 108, 108, 111, 110, 47, 116, 111, 117, 114, 98, 105, 108, 108, 111, 110, 108,
    97, 119, 48, 55, 46, 81, 117, 101, 117, 101, 83, 119, 101, 101, 112, 80, 114, 111, 111, 102, 32, 116, 111, 117, 114, 98, 105, 108, 108, 111, 110, 47, 116, 111, 117, 114, 98, 105,
    108, 108, 111, 110, 108, 97, 119, 48, 55, 46, 81, 117, 101, 117, 101, 74, 111, 104, 110, 115, 111, 110, 115, 32, 116, 111, 117, 114, 98, 105, 108, 108, 111, 110, 47, 116, 111, 117,
    114, 98, 105, 108, 108, 111, 110, 108, 97, 119, 48, 55, 46, 81, 117, 101, 117, 101, 79, 110, 84, 105, 109, 101, 115, 32, 116, 111, 117, 114, 98, 105, 108, 108, 111, 110, 47, 116,
    111, 117, 114, 98, 105, 108, 108, 111, 110, 108, 97, 119, 48, 55, 46, 81, 117, 101, 117, 101, 79, 114, 100, 101, 114, 115, 32, 116, 111, 117, 114, 98, 105, 108, 108, 111, 110, 47,
    116, 111, 117, 114, 98, 105, 108, 108, 111, 110, 108, 97, 119, 48, 55, 46, 81, 117, 101, 117, 101, 79, 110, 84, 105, 109, 101, 77, 111, 115, 116, 32, 116, 111, 117, 114, 98, 105,
    108, 108, 111, 110, 47, 116, 111, 117, 114, 98, 105, 108, 108, 111, 110, 108, 97, 119, 48, 55, 46, 81, 117, 101, 117, 101, 77, 111, 114, 101] : List Nat).map Char.ofNat))).tail, by rw [Try.signs]; kernel_rfl⟩
/-- The word 'cut'. -/
def cutSigns : List Char := ([99, 117, 116] : List Nat).map Char.ofNat
theorem cut_e1 : (cutSigns == "gc".toList || cutSigns == "spec".toList) = false := by kernel_rfl
theorem cut_e2 : (cutSigns == "cut".toList) = true := by kernel_rfl
theorem cut_e3 : (cutSigns == "carried".toList) = false := by kernel_rfl
theorem cut_e4 : (some cutSigns == some "cut".toList) = true := by kernel_rfl
theorem cut_strip (r : List (List Char)) : stripLifts liftWords (cutSigns :: r) = ([], cutSigns :: r) := by kernel_rfl
theorem heads_of {P : Program} {r : List (List Char)} (h : behindMainWord (wordsSigns P.initOrder.toList) = cutSigns :: r) : P.headLifts = [] := by
  unfold Program.headLifts
  rw [h, cut_strip]
  simp
theorem make_of {P : Program} {r : List (List Char)} (h : behindMainWord (wordsSigns P.initOrder.toList) = cutSigns :: r) : P.make = some .cut := by
  unfold Program.make
  rw [h]
  simp only [cut_e1, cut_e2, Bool.true_or, if_true, Bool.false_eq_true, if_false]
theorem enter_of {P : Program} {r : List (List Char)} (h : behindMainWord (wordsSigns P.initOrder.toList) = cutSigns :: r) (h1 : P.laysLater = false) (h2 : P.bearsReflect = false) (h3 : P.doorFits [] = true) : P.mayEnter = true := by
  unfold Program.mayEnter
  rw [h]
  simp only [cut_strip, h1, h2, h3, List.head?_cons, cut_e4]
  simp
theorem Try.made : Try.prog.make = some .cut := by
  obtain ⟨r, h⟩ := Try.words
  exact make_of h
theorem Try.finals : Try.prog.liftsFinal = false := by
  obtain ⟨r, h⟩ := Try.words
  unfold Program.liftsFinal
  rw [heads_of h, h]
  kernel_rfl
theorem Try.later : Try.prog.laysLater = false := by kernel_rfl
theorem Try.reflect : Try.prog.bearsReflect = false := by kernel_rfl
theorem Try.door : Try.prog.doorFits [] = true := by kernel_rfl
theorem Try.enters : Try.prog.mayEnter = true := by
  obtain ⟨r, h⟩ := Try.words
  exact enter_of h Try.later Try.reflect Try.door
end Go.Proofs.Ytnfcigbiebbjdaa
namespace Go.Proofs.Ytnfcigbiebbjdaa
open Go.ChangeShapes Go.WideShapes Go.ChangeAt Go.RowKit

theorem Try.own : ownKnob Try.prog.godebug = none := by kernel_rfl
theorem Try.laidOut : laidOutB Try.prog = true := by kernel_rfl

theorem trodAll_below {H : Type} {enc : TypeId × Value → H} {P : Program} (hl : laidOutB P = true) {W W' : World} (hb : Below W.heap.size W W') :
    ∀ {ts : List TypeId} {vs : List Value} {ds : List (DataW H)} {ps : List MemPlace}, (∀ t ∈ ts, P.readableRec t = true ∧ t < P.types.size) → (∀ x ∈ ps, x.block < W.heap.size) →
      DataW.TrodAll enc P W 0 (fun _ => true) true ts vs ds ps → DataW.TrodAll enc P W' 0 (fun b => decide (b < W.heap.size)) true ts vs ds ps
  | [], [], [], _, _, _, h => h
  | t :: _, _ :: _, _ :: _, _, hT, hlt, ⟨p, q, h1, h2, e⟩ =>
    ⟨p, q, Below.trod hl (hT t (List.mem_cons.2 (Or.inl rfl))).1 (hT t (List.mem_cons.2 (Or.inl rfl))).2 h1 hb (fun x hx => hlt x (by rw [e]; exact List.mem_append_left _ hx)),
      trodAll_below hl hb (fun t ht => hT t (List.mem_cons.2 (Or.inr ht))) (fun x hx => hlt x (by rw [e]; exact List.mem_append_right _ hx)) h2, e⟩

section
variable {H : Type} {enc : TypeId × Value → H}
theorem law_post {f : Func} {s : ChangeSpec} {W W' : World} {args : Array Value} {ds gs : List (DataW H)} {before : List MemPlace} (hv : s.vars = [])
    (hr : f.resultTypes = #[4]) (hT : f.params.toList.all (fun t => Try.prog.readableRec t && decide (t < Try.prog.types.size)) = true)
    (hW : DataW.Whole enc Try.prog f.params.toList s.vars false W args.toList ds gs before)
    (hs : (s.fn H (ds ++ gs)).results = [.lit (.bool true)]) (ha : (s.fn H (ds ++ gs)).args = ds) (hvs : (s.fn H (ds ++ gs)).vars = []) (hb : Below W.heap.size W W') :
    s.post enc Try.prog f false true false false W args (.bool true) W' := by
  have hlt : ∀ p ∈ before, p.block < W.heap.size := fun p hp => hW.lt p hp
  have hT' : ∀ t ∈ f.params.toList, Try.prog.readableRec t = true ∧ t < Try.prog.types.size := fun t ht => by
    have := List.all_eq_true.1 hT t ht
    simpa using this
  have hW' := hW
  obtain ⟨p, q, hA, hV, rfl, _, _⟩ := hW
  rw [hv] at hV
  match gs, hV with
  | [], hV =>
    obtain ⟨_, rfl⟩ := trodVars_none hV
    simp only [List.append_nil] at hlt hW'
    refine ⟨ds, [], p, [], p, [], hW', ?_, ?_, ?_, hb.frame _, fun h => by cases h⟩
    · rw [hs, hr]
      exact trodAll_mk1 (shut_bool Try.underlying4 true)
    · rw [ha]
      exact trodAll_below Try.laidOut hb hT' hlt hA
    · rw [hv, hvs]
      exact rfl
  | _ :: _, hV => exact hV.elim
end
end Go.Proofs.Ytnfcigbiebbjdaa
namespace Go.Proofs.Ytnfcigbiebbjdaa
open Go.ChangeShapes Go.WideShapes Go.ChangeAt Go.RowKit Go.Joins Go.Deep

section
variable {H : Type} {enc : TypeId × Value → H} {w : World} {base : Nat} {spare : Nat → Bool} {held : Bool}
theorem Try.cells3 : Try.prog.cellsOf 3 = 1 := by kernel_rfl
theorem int_of {n : Nat} {v : Value} {y : DataW H × List MemPlace} (h : DataW.trod enc Try.prog w base spare held n 3 [v] = some y) : ∃ a : Int, v = .int .i64 a := by
  obtain ⟨a, e, _, _⟩ := DataW.trod_int Try.underlying3 h
  exact ⟨a, by simpa using e⟩
theorem choose_row {V : Nat → Value} : ∀ (n : Nat), (∀ i, i < n → ∃ a : Int, V i = .int .i64 a) → ∃ f : Nat → Int, ∀ i, i < n → V i = .int .i64 (f i)
  | 0, _ => ⟨fun _ => 0, fun i h => absurd h (by omega)⟩
  | n + 1, h => by
    obtain ⟨f, hf⟩ := choose_row n (fun i hi => h i (by omega))
    obtain ⟨a, ha⟩ := h n (by omega)
    refine ⟨fun i => if i = n then a else f i, fun i hi => ?_⟩
    by_cases e : i = n
    · subst e
      simpa using ha
    · simp only [if_neg e]
      exact hf i (by omega)
/-- The cells of a slice of integers, wherever it lies. -/
theorem open_Ic {fuel : Nat} {cs : List Value} {y : DataW H × List MemPlace} (h : DataW.trod enc Try.prog w base spare held fuel 23 cs = some y) :
    ∃ (A : Option Addr) (n cap : Nat) (l : List Int), cs = [.slice A n cap] ∧ RowI w A n l ∧ n ≤ cap ∧ cap ≤ maxLen ∧ (A = none → cap = 0) := by
  rcases open_slice1 Try.underlying23 Try.cells3 h with ⟨h0, _⟩ | ⟨a, len, cap, m, k, V, D, Pl, hcs, hb, hl, hm, hmm, _, hi⟩
  · exact ⟨none, 0, 0, [], h0, RowI.nil _ _, Nat.le_refl _, Nat.zero_le _, fun _ => rfl⟩
  · have hlm : len ≤ m := by rw [hmm]; split <;> omega
    obtain ⟨f, hf⟩ := choose_row (V := V) len (fun i hi' => int_of (hi i (by omega)).2)
    refine ⟨some a, len, cap, (List.range len).map f, hcs, ⟨by simp, fun hn => ⟨a, rfl, ?_, fun k v hk => ?_⟩⟩, hl, hm, fun h => by cases h⟩
    · have := (hi 0 (by omega)).1
      exact World.block_lt_of_cell? _ _ this
    · have hkn : k < len := by
        have := (List.getElem?_eq_some_iff.1 hk).1
        simpa using this
      rw [List.getElem?_map, List.getElem?_range hkn] at hk
      simp at hk
      subst hk
      rw [(hi k (by omega)).1, hf k hkn]
set_option maxRecDepth 100000 in
theorem open_I {r : Reach} {b0 : Nat} {v : Value} {d : DataW H} {p : List MemPlace} (hv : Value.okWide Try.prog w r b0 23 v) (h : DataW.Trod enc Try.prog w base spare held 23 v d p) :
    ∃ (A : Option Addr) (n cap : Nat) (l : List Int), v = .slice A n cap ∧ RowI w A n l ∧ n ≤ cap ∧ cap ≤ maxLen ∧ (A = none → cap = 0) := by
  obtain ⟨A, n, cap, rfl⟩ := okWide_slice Try.underlying23 hv
  obtain ⟨fuel, hf⟩ := h
  obtain ⟨A', n', cap', l, hcs, h1, h2, h3, h4⟩ := open_Ic hf
  simp [Value.cells] at hcs
  obtain ⟨rfl, rfl, rfl⟩ := hcs
  exact ⟨_, _, _, l, rfl, h1, h2, h3, h4⟩
end
end Go.Proofs.Ytnfcigbiebbjdaa
namespace Go.Proofs.Ytnfcigbiebbjdaa
open Go.ChangeShapes Go.WideShapes Go.ChangeAt Go.RowKit Go.Joins Go.Deep

theorem Try.cells43 : Try.prog.cellsOf 43 = 5 := by kernel_rfl
theorem Try.cells23 : Try.prog.cellsOf 23 = 1 := by kernel_rfl
instance : Inhabited Jb := ⟨Jb.none⟩
theorem add_off {a : Addr} (k i : Nat) (h : 0 < i) : (⟨(a.add k).block, (a.add k).off + i, none⟩ : Addr) = a.add (k + i) := by
  unfold Addr.add
  by_cases hk : k = 0
  · subst hk
    rw [if_pos rfl, if_neg (by omega)]
    simp
  · rw [if_neg hk, if_neg (by omega)]
    simp [Nat.add_assoc]
section
variable {H : Type} {enc : TypeId × Value → H} {w : World} {base : Nat} {spare : Nat → Bool} {held : Bool}
set_option maxRecDepth 100000 in
theorem job_of {n : Nat} {cs : List Value} {y : DataW H × List MemPlace} (h : DataW.trod enc Try.prog w base spare held n 43 cs = some y) :
    ∃ (a b c d : Int) (B : Option Addr) (m cap : Nat) (l : List Int), cs = [.int .i64 a, .int .i64 b, .int .i64 c, .int .i64 d, .slice B m cap] ∧ RowI w B m l ∧ m ≤ cap ∧ (B = none → cap = 0) := by
  obtain ⟨xs, k, rfl, rfl, hlen, hxs, hf⟩ := DataW.trod_struct Try.underlying43 h
  rw [Try.cells43] at hlen
  match cs, hlen with
  | [v0, v1, v2, v3, v4], _ =>
    have hx5 : xs.length = 5 := by rw [hxs]; rfl
    match xs, hx5 with
    | [x0, x1, x2, x3, x4], _ =>
      have t0 : DataW.trod enc Try.prog w base spare held k 3 (([v0, v1, v2, v3, v4].drop 0).take (Try.prog.cellsOf 3)) = some x0 := hf 0 _ rfl
      rw [Try.cells3] at t0
      have t1 : DataW.trod enc Try.prog w base spare held k 3 (([v0, v1, v2, v3, v4].drop 1).take (Try.prog.cellsOf 3)) = some x1 := hf 1 _ rfl
      rw [Try.cells3] at t1
      have t2 : DataW.trod enc Try.prog w base spare held k 3 (([v0, v1, v2, v3, v4].drop 2).take (Try.prog.cellsOf 3)) = some x2 := hf 2 _ rfl
      rw [Try.cells3] at t2
      have t3 : DataW.trod enc Try.prog w base spare held k 3 (([v0, v1, v2, v3, v4].drop 3).take (Try.prog.cellsOf 3)) = some x3 := hf 3 _ rfl
      rw [Try.cells3] at t3
      have t4 : DataW.trod enc Try.prog w base spare held k 23 (([v0, v1, v2, v3, v4].drop 4).take (Try.prog.cellsOf 23)) = some x4 := hf 4 _ rfl
      rw [Try.cells23] at t4
      obtain ⟨a, rfl⟩ := int_of (v := v0) (y := x0) t0
      obtain ⟨b, rfl⟩ := int_of (v := v1) (y := x1) t1
      obtain ⟨c, rfl⟩ := int_of (v := v2) (y := x2) t2
      obtain ⟨d, rfl⟩ := int_of (v := v3) (y := x3) t3
      obtain ⟨B, m, cap, l, e, h1, h2, _, h4⟩ := open_Ic (cs := [v4]) (y := x4) t4
      have e' : v4 = .slice B m cap := by simpa using e
      subst e'
      exact ⟨a, b, c, d, B, m, cap, l, rfl, h1, h2, h4⟩
set_option maxRecDepth 100000 in
theorem open_J {r : Reach} {b0 : Nat} {v : Value} {d : DataW H} {p : List MemPlace} (hv : Value.okWide Try.prog w r b0 22 v) (h : DataW.Trod enc Try.prog w base spare held 22 v d p) :
    ∃ (A : Option Addr) (n cap : Nat) (l : List Jb), v = .slice A n cap ∧ JobsA w A n l ∧ n ≤ cap ∧ cap ≤ maxLen ∧ (A = none → cap = 0) := by
  obtain ⟨A, n, cap, rfl⟩ := okWide_slice Try.underlying22 hv
  obtain ⟨fuel, hf⟩ := h
  rcases open_slice Try.underlying22 hf with ⟨h0, _⟩ | ⟨a, len, cap', m, k, D, Pl, hcs, hb, hl, hm, hmm, _, hi⟩
  · simp [Value.cells] at h0
    obtain ⟨rfl, rfl, rfl⟩ := h0
    exact ⟨none, 0, 0, [], rfl, ⟨rfl, fun h => absurd h (by omega)⟩, Nat.le_refl _, Nat.zero_le _, fun _ => rfl⟩
  · simp [Value.cells] at hcs
    obtain ⟨rfl, rfl, rfl⟩ := hcs
    have hlm : n ≤ m := by rw [hmm]; split <;> omega
    rw [Try.cells43] at hi
    obtain ⟨f, hf0⟩ := choose_lt (α := Jb) (n := n) (p := fun i j => JobAny w (a.add (i * 5)) j) (fun i hi' => by
      obtain ⟨cs', h1, h2⟩ := hi i (by omega)
      obtain ⟨x0, x1, x2, x3, B, q, cp, l, rfl, g1, g2, g3⟩ := job_of h2
      obtain ⟨_, _, hc⟩ := World.cells?_some h1
      have c0 := hc 0 (by omega)
      have c1 := hc 1 (by omega)
      have c2 := hc 2 (by omega)
      have c3 := hc 3 (by omega)
      have c4 := hc 4 (by omega)
      rw [Addr.add_add] at c0 c1 c2 c3 c4
      refine ⟨⟨x0, x1, x2, x3, l⟩, c0, ?_, ?_, ?_, B, q, cp, ?_, g1, g2, g3⟩
      · rw [add_off _ 1 (by omega)]; exact c1
      · rw [add_off _ 2 (by omega)]; exact c2
      · rw [add_off _ 3 (by omega)]; exact c3
      · rw [add_off _ 4 (by omega)]; exact c4)
    refine ⟨some a, n, cap, (List.range n).map f, rfl, ⟨by simp, fun hn => ⟨a, rfl, ?_, fun k j hk => ?_⟩⟩, hl, hm, fun h => by cases h⟩
    · have := World.block_lt_of_cell? _ _ (hf0 0 hn).1
      rwa [add_block] at this
    · have hkn : k < n := by
        have := (List.getElem?_eq_some_iff.1 hk).1
        simpa using this
      rw [List.getElem?_map, List.getElem?_range hkn] at hk
      simp at hk
      subst hk
      exact hf0 k hkn
end
end Go.Proofs.Ytnfcigbiebbjdaa
