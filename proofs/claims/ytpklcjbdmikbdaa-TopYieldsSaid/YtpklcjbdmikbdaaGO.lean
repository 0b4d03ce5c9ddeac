/-
  The seat's texts Seat Frame OpenI OpenF CutF in one: the contracts of the functions that the law reaches, and the plain laws that they rest on.
  Conditions: as each theorem states them.
-/
import Derived.Test.YtpklcjbdmikbdaaRows
import Derived.ProofKit
import Derived.Test.YtpklcjbdmikbdaaGK
import Derived.OpenShut
import Derived.Lib.SmallJoins
import Derived.Deep.Slices
import Derived.Test.YtpklcjbdmikbdaaGX
namespace Go.Proofs.Ytpklcjbdmikbdaa
theorem and_t {a b : Bool} (ha : a = true) (hb : b = true) : (a && b) = true := by rw [ha, hb]; rfl
set_option maxRecDepth 100000 in
theorem Try.head : Try.prog.initOrder = String.ofList (([104, 97, 114, 110, 101, 115, 115, 32, 53, 55, 99, 48, 100, 100, 102, 49, 53, 56, 52, 48, 98, 102, 52, 55, 54, 53, 54, 99, 51, 102, 97, 54, 97, 55, 53, 53, 56, 57, 98, 51, 54, 49,
    101, 99, 97, 102, 100, 54, 99, 51, 55, 100, 97, 97, 51, 51, 51, 57, 57, 52, 55, 51, 56, 97, 102, 52, 98, 57, 100, 48, 57, 102, 32, 99, 117, 116, 32, 97, 116, 32, 116, 111, 117,
    114, 98, 105, 108, 108, 111, 110, 47, 116, 111, 117, 114, 98, 105, 108, 108, 111, 110, 116, 111, 112, 46, 84, 111, 112, 89, 105, 101, 108, 100, 115, 32, 116, 111, 117, 114, 98,
    105, 108, 108, 111, 110, 47, 116, 111, 117, 114, 98, 105, 108, 108, 111, 110, 108, 97, 119, 48, 50, 46, 70, 105, 116, 80, 97, 105, 114, 115, 32, 116, 111, 117, 114, 98, 105, 108,
    108, 111, 110, 47, 116, 111, 117, 114, 98, 105, 108, 108, 111, 110, 108, 97, 119, 48, 50, 46, 70, 105, 116, 83, 112, 108, 105, 116, 115, 32, 116, 111, 117, 114, 98, 105, 108, 108,
    111, 110, 47, 116, 111, 117, 114, 98, 105, 108, 108, 111, 110, 108, 97, 119, 48, 50, 46, 70, 105, 116, 77, 111, 118, 101, 115, 32, 116, 111, 117, 114, 98, 105, 108, 108, 111, 110,
    47, 116, 111, 117, 114, 98, 105, 108, 108, 111, 110, 108, 97, 119, 48, 50, 46, 70, 105, 116, 77, 111, 115, 116, 32, 116, 111, 117, 114, 98, 105, 108, 108, 111, 110, 47, 116, 111,
    117, 114, 98, 105, 108, 108, 111, 110, 108, 97, 119, 48, 50, 46, 70, 105, 116, 77, 111, 114, 101, 32, 116, 111, 117, 114, 98, 105, 108, 108, 111, 110, 47, 116, 111, 117, 114, 98,
    105, 108, 108, 111, 110, 108, 97, 119, 48, 50, 46, 70, 105, 116, 83, 104, 111, 119, 115, 32, 116, 111, 117, 114, 98, 105, 108, 108, 111, 110, 47, 116, 111, 117, 114, 98, 105, 108,
    108, 111, 110, 108, 97, 119, 48, 50, 46, 70, 105, 116, 83, 116, 97, 99, 107, 115, 32, 116, 111, 117, 114, 98, 105, 108, 108, 111, 110, 47, 116, 111, 117, 114, 98, 105, 108, 108,
    111, 110, 108, 97, 119, 48, 50, 46, 70, 105, 116, 87, 111, 114, 115, 116, 32, 116, 111, 117, 114, 98, 105, 108, 108, 111, 110, 47, 116, 111, 117, 114, 98, 105, 108, 108, 111, 110,
    108, 97, 119, 48, 50, 46, 70, 105, 116, 76, 97, 99, 107, 115, 32, 116, 111, 117, 114, 98, 105, 108, 108, 111, 110, 47, 116, 111, 117, 114, 98, 105, 108, 108, 111, 110, 108, 97,
    119, 48, 50, 46, 70, 105, 116, 71, 114, 105, 110, 100, 115, 32, 116, 111, 117, 114, 98, 105, 108, 108, 111, 110, 47, 116, 111, 117, 114, 98, 105, 108, 108, 111, 110, 108, 97, 119,
    48, 50, 46, 70, 105, 116, 76, 101, 97, 115, 116, 32, 116, 111, 117, 114, 98, 105, 108, 108, 111, 110, 47, 116, 111, 117, 114, 98, 105, 108, 108, 111, 110, 108, 97, 119, 48, 50, 46,
    70, 105, 116, 80, 97, 105, 114, 101, 100, 32, 116, 111, 117, 114, 98, 105, 108, 108, 111, 110, 47, 116, 111, 117, 114, 98, 105, 108, 108, 111, 110, 108, 97, 119, 48, 50, 46, 70,
    105, 116, 68, 117, 97, 108] : List Nat).map Char.ofNat) := by kernel_rfl
set_option maxRecDepth 100000 in
theorem Try.signs : Try.prog.initOrder.toList = ([104, 97, 114, 110, 101, 115, 115, 32, 53, 55, 99, 48, 100, 100, 102, 49, 53, 56, 52, 48, 98, 102, 52, 55, 54, 53, 54, 99, 51, 102, 97, 54, 97, 55, 53, 53, 56, 57, 98, 51, 54, 49,
    101, 99, 97, 102, 100, 54, 99, 51, 55, 100, 97, 97, 51, 51, 51, 57, 57, 52, 55, 51, 56, 97, 102, 52, 98, 57, 100, 48, 57, 102, 32, 99, 117, 116, 32, 97, 116, 32, 116, 111, 117,
    114, 98, 105, 108, 108, 111, 110, 47, 116, 111, 117, 114, 98, 105, 108, 108, 111, 110, 116, 111, 112, 46, 84, 111, 112, 89, 105, 101, 108, 100, 115, 32, 116, 111, 117, 114, 98,
    105, 108, 108, 111, 110, 47, 116, 111, 117, 114, 98, 105, 108, 108, 111, 110, 108, 97, 119, 48, 50, 46, 70, 105, 116, 80, 97, 105, 114, 115, 32, 116, 111, 117, 114, 98, 105, 108,
    108, 111, 110, 47, 116, 111, 117, 114, 98, 105, 108, 108, 111, 110, 108, 97, 119, 48, 50, 46, 70, 105, 116, 83, 112, 108, 105, 116, 115, 32, 116, 111, 117, 114, 98, 105, 108, 108,
    111, 110, 47, 116, 111, 117, 114, 98, 105, 108, 108, 111, 110, 108, 97, 119, 48, 50, 46, 70, 105, 116, 77, 111, 118, 101, 115, 32, 116, 111, 117, 114, 98, 105, 108, 108, 111, 110,
    47, 116, 111, 117, 114, 98, 105, 108, 108, 111, 110, 108, 97, 119, 48, 50, 46, 70, 105, 116, 77, 111, 115, 116, 32, 116, 111, 117, 114, 98, 105, 108, 108, 111, 110, 47, 116, 111,
    117, 114, 98, 105, 108, 108, 111, 110, 108, 97, 119, 48, 50, 46, 70, 105, 116, 77, 111, 114, 101, 32, 116, 111, 117, 114, 98, 105, 108, 108, 111, 110, 47, 116, 111, 117, 114, 98,
    105, 108, 108, 111, 110, 108, 97, 119, 48, 50, 46, 70, 105, 116, 83, 104, 111, 119, 115, 32, 116, 111, 117, 114, 98, 105, 108, 108, 111, 110, 47, 116, 111, 117, 114, 98, 105, 108,
    108, 111, 110, 108, 97, 119, 48, 50, 46, 70, 105, 116, 83, 116, 97, 99, 107, 115, 32, 116, 111, 117, 114, 98, 105, 108, 108, 111, 110, 47, 116, 111, 117, 114, 98, 105, 108, 108,
    111, 110, 108, 97, 119, 48, 50, 46, 70, 105, 116, 87, 111, 114, 115, 116, 32, 116, 111, 117, 114, 98, 105, 108, 108, 111, 110, 47, 116, 111, 117, 114, 98, 105, 108, 108, 111, 110,
    108, 97, 119, 48, 50, 46, 70, 105, 116, 76, 97, 99, 107, 115, 32, 116, 111, 117, 114, 98, 105, 108, 108, 111, 110, 47, 116, 111, 117, 114, 98, 105, 108, 108, 111, 110, 108, 97,
    119, 48, 50, 46, 70, 105, 116, 71, 114, 105, 110, 100, 115, 32, 116, 111, 117, 114, 98, 105, 108, 108, 111, 110, 47, 116, 111, 117, 114, 98, 105, 108, 108, 111, 110, 108, 97, 119,
    48, 50, 46, 70, 105, 116, 76, 101, 97, 115, 116, 32, 116, 111, 117, 114, 98, 105, 108, 108, 111, 110, 47, 116, 111, 117, 114, 98, 105, 108, 108, 111, 110, 108, 97, 119, 48, 50, 46,
    70, 105, 116, 80, 97, 105, 114, 101, 100, 32, 116, 111, 117, 114, 98, 105, 108, 108, 111, 110, 47, 116, 111, 117, 114, 98, 105, 108, 108, 111, 110, 108, 97, 119, 48, 50, 46, 70,
    105, 116, 68, 117, 97, 108] : List Nat).map Char.ofNat := by rw [Try.head, String.toList_ofList]
set_option maxRecDepth 100000 in
theorem Try.words : ∃ r, behindMainWord (wordsSigns Try.prog.initOrder.toList) = (([99, 117, 116] : List Nat).map Char.ofNat) :: r :=
  ⟨(behindMainWord (wordsSigns (([104, 97, 114, 110, 101, 115, 115, 32, 53, 55, 99, 48, 100, 100, 102, 49, 53, 56, 52, 48, 98, 102, 52, 55, 54, 53, 54, 99, 51, 102, 97, 54, 97, 55, 53, 53, 56, 57, 98, 51, 54, 49,
    101, 99, 97, 102, 100, 54, 99, 51, 55, 100, 97, 97, 51, 51, 51, 57, 57, 52, 55, 51, 56, 97, 102, 52, 98, 57, 100, 48, 57, 102, 32, 99, 117, 116, 32, 97, 116, 32, 116, 111, 117,
    114, 98, 105, 108, 108, 111, 110, 47, 116, 111, 117, 114, 98, 105, 108, 108, 111, 110, 116, 111, 112, 46, 84, 111, 112, 89, 105, 101, 108, 100, 115, 32, 116, 111, 117, 114, 98,
    105, 108, 108, 111, 110, 47, 116, 111, 117, 114, 98, 105, 108, 108, 111, 110, 108, 97, 119, 48, 50, 46, 70, 105, 116, 80, 97, 105, 114, 115, 32, 116, 111, 117, 114, 98, 105, 108,
    108, 111, 110, 47, 116, 111, 117, 114, 98, 105, 108, 108, 111, 110, 108, 97, 119, 48, 50, 46, 70, 105, 116, 83, 112, 108, 105, 116, 115, 32, 116, 111, 117, 114, 98, 105, 108, 108,
    111, 110, 47, 116, 111, 117, 114, 98, 105, 108, 108, 111, 110, 108, 97, 119, 48, 50, 46, 70, 105, 116, 77, 111, 118, 101, 115, 32, 116, 111, 117, 114, 98, 105, 108, 108, 111, 110,
    47, 116, 111, 117, 114, 98, 105, 108, 108, 111, 110, 108, 97, 119, 48, 50, 46, 70, 105, 116, 77, 111, 115, 116, 32, 116, 111, 117, 114, 98, 105, 108, 108, 111, 110, 47, 116, 111,
    117, 114, 98, 105, 108, 108, 111, 110, 108, 97, 119, 48, 50, 46, 70, 105, 116, 77, 111, 114, 101, 32, 116, 111, 117, 114, 98, 105, 108, 108, 111, 110, 47, 116, 111, 117, 114, 98,
    105, 108, 108, 111, 110, 108, 97, 119, 48, 50, 46, 70, 105, 116, 83, 104, 111, 119, 115, 32, 116, 111, 117, 114, 98, 105, 108, 108, 111, 110, 47, 116, 111, 117, 114, 98, 105, 108,
    108, 111, 110, 108, 97, 119, 48, 50, 46, 70, 105, 116, 83, 116, 97, 99, 107, 115, 32, 116, 111, 117, 114, 98, 105, 108, 108, 111, 110, 47, 116, 111, 117, 114, 98, 105, 108, 108,
    111, 110, 108, 97, 119, 48, 50, 46, 70, 105, 116, 87, 111, 114, 115, 116, 32, 116, 111, 117, 114, 98, 105, 108, 108, 111, 110, 47, 116, 111, 117, 114, 98, 105, 108, 108, 111, 110,
    108, 97, 119, 48, 50, 46, 70, 105, 116, 76, 97, 99, 107, 115, 32, 116, 111, 117, 114, 98, 105, 108, 108, 111, 110, 47, 116, 111, 117, 114, 98, 105, 108, 108, 111, 110, 108, 97,
    119, 48, 50, 46, 70, 105, 116, 71, 114, 105, 110, 100, 115, 32, 116, 111, 117, 114, 98, 105, 108, 108, 111, 110, 47, 116, 111, 117, 114, 98, 105, 108, 108, 111, 110, 108, 97, 119,
    48, 50, 46, 70, 105, 116, 76, 101, 97, 115, 116, 32, 116, 111, 117, 114, 98, 105, 108, 108, 111, 110, 47, 116, 111, 117, 114, 98, 105, 108, 108, 111, 110, 108, 97, 119, 48, 50, 46,
    70, 105, 116, 80, 97, 105, 114, 101, 100, 32, 116, 111, 117, 114, 98, 105, 108, 108, 111, 110, 47, 116, 111, 117, 114, 98, 105, 108, 108, 111, 110, 108, 97, 119, 48, 50, 46, 70,
    105, 116, 68, 117, 97, 108] : List Nat).map Char.ofNat))).tail, by rw [Try.signs]; kernel_rfl⟩
/-- The word 'cut'. -/
def cutSigns : List Char := ([99, 117, 116] : List Nat).map Char.ofNat
theorem cut_e1 : (cutSigns == "gc".toList || cutSigns == "spec".toList) = false := by kernel_rfl
theorem cut_e2 : (cutSigns == "cut".toList) = true := by kernel_rfl
theorem cut_e3 : (cutSigns == "carried".toList) = false := by kernel_rfl
theorem cut_e4 : (some cutSigns == some "cut".toList) = true := by kernel_rfl
theorem cut_strip (r : List (List Char)) : stripLifts liftWords (cutSigns :: r) = ([], cutSigns :: r) := by kernel_rfl
theorem heads_of {P : Program} {r : List (List Char)} (h : behindMainWord (wordsSigns P.initOrder.toList) = cutSigns :: r) : P.headLifts = [] := by
  unfold Program.headLifts
  rw [h, cut_strip]
  simp
theorem make_of {P : Program} {r : List (List Char)} (h : behindMainWord (wordsSigns P.initOrder.toList) = cutSigns :: r) : P.make = some .cut := by
  unfold Program.make
  rw [h]
  simp only [cut_e1, cut_e2, Bool.true_or, if_true, Bool.false_eq_true, if_false]
theorem enter_of {P : Program} {r : List (List Char)} (h : behindMainWord (wordsSigns P.initOrder.toList) = cutSigns :: r) (h1 : P.laysLater = false) (h2 : P.bearsReflect = false) (h3 : P.doorFits [] = true) : P.mayEnter = true := by
  unfold Program.mayEnter
  rw [h]
  simp only [cut_strip, h1, h2, h3, List.head?_cons, cut_e4]
  simp
theorem Try.made : Try.prog.make = some .cut := by
  obtain ⟨r, h⟩ := Try.words
  exact make_of h
theorem Try.finals : Try.prog.liftsFinal = false := by
  obtain ⟨r, h⟩ := Try.words
  unfold Program.liftsFinal
  rw [heads_of h, h]
  kernel_rfl
theorem Try.later : Try.prog.laysLater = false := by kernel_rfl
theorem Try.reflect : Try.prog.bearsReflect = false := by kernel_rfl
theorem Try.door : Try.prog.doorFits [] = true := by kernel_rfl
theorem Try.enters : Try.prog.mayEnter = true := by
  obtain ⟨r, h⟩ := Try.words
  exact enter_of h Try.later Try.reflect Try.door
end Go.Proofs.Ytpklcjbdmikbdaa
namespace Go.Proofs.Ytpklcjbdmikbdaa
open Go.ChangeShapes Go.WideShapes Go.ChangeAt Go.RowKit

theorem Try.own : ownKnob Try.prog.godebug = none := by kernel_rfl
theorem Try.laidOut : laidOutB Try.prog = true := by kernel_rfl

theorem trodAll_below {H : Type} {enc : TypeId × Value → H} {P : Program} (hl : laidOutB P = true) {W W' : World} (hb : Below W.heap.size W W') :
    ∀ {ts : List TypeId} {vs : List Value} {ds : List (DataW H)} {ps : List MemPlace}, (∀ t ∈ ts, P.readableRec t = true ∧ t < P.types.size) → (∀ x ∈ ps, x.block < W.heap.size) →
      DataW.TrodAll enc P W 0 (fun _ => true) true ts vs ds ps → DataW.TrodAll enc P W' 0 (fun b => decide (b < W.heap.size)) true ts vs ds ps
  | [], [], [], _, _, _, h => h
  | t :: _, _ :: _, _ :: _, _, hT, hlt, ⟨p, q, h1, h2, e⟩ =>
    ⟨p, q, Below.trod hl (hT t (List.mem_cons.2 (Or.inl rfl))).1 (hT t (List.mem_cons.2 (Or.inl rfl))).2 h1 hb (fun x hx => hlt x (by rw [e]; exact List.mem_append_left _ hx)),
      trodAll_below hl hb (fun t ht => hT t (List.mem_cons.2 (Or.inr ht))) (fun x hx => hlt x (by rw [e]; exact List.mem_append_right _ hx)) h2, e⟩

section
variable {H : Type} {enc : TypeId × Value → H}
theorem law_post {f : Func} {s : ChangeSpec} {W W' : World} {args : Array Value} {ds gs : List (DataW H)} {before : List MemPlace} (hv : s.vars = [])
    (hr : f.resultTypes = #[4]) (hT : f.params.toList.all (fun t => Try.prog.readableRec t && decide (t < Try.prog.types.size)) = true)
    (hW : DataW.Whole enc Try.prog f.params.toList s.vars false W args.toList ds gs before)
    (hs : (s.fn H (ds ++ gs)).results = [.lit (.bool true)]) (ha : (s.fn H (ds ++ gs)).args = ds) (hvs : (s.fn H (ds ++ gs)).vars = []) (hb : Below W.heap.size W W') :
    s.post enc Try.prog f false true false false W args (.bool true) W' := by
  have hlt : ∀ p ∈ before, p.block < W.heap.size := fun p hp => hW.lt p hp
  have hT' : ∀ t ∈ f.params.toList, Try.prog.readableRec t = true ∧ t < Try.prog.types.size := fun t ht => by
    have := List.all_eq_true.1 hT t ht
    simpa using this
  have hW' := hW
  obtain ⟨p, q, hA, hV, rfl, _, _⟩ := hW
  rw [hv] at hV
  match gs, hV with
  | [], hV =>
    obtain ⟨_, rfl⟩ := trodVars_none hV
    simp only [List.append_nil] at hlt hW'
    refine ⟨ds, [], p, [], p, [], hW', ?_, ?_, ?_, hb.frame _, fun h => by cases h⟩
    · rw [hs, hr]
      exact trodAll_mk1 (shut_bool Try.underlying4 true)
    · rw [ha]
      exact trodAll_below Try.laidOut hb hT' hlt hA
    · rw [hv, hvs]
      exact rfl
  | _ :: _, hV => exact hV.elim
end
end Go.Proofs.Ytpklcjbdmikbdaa
namespace Go.Proofs.Ytpklcjbdmikbdaa
open Go.ChangeShapes Go.WideShapes Go.ChangeAt Go.RowKit Go.Joins Go.Deep

section
variable {H : Type} {enc : TypeId × Value → H} {w : World} {base : Nat} {spare : Nat → Bool} {held : Bool}
theorem Try.cells3 : Try.prog.cellsOf 3 = 1 := by kernel_rfl
theorem int_of {n : Nat} {v : Value} {y : DataW H × List MemPlace} (h : DataW.trod enc Try.prog w base spare held n 3 [v] = some y) : ∃ a : Int, v = .int .i64 a := by
  obtain ⟨a, e, _, _⟩ := DataW.trod_int Try.underlying3 h
  exact ⟨a, by simpa using e⟩
theorem choose_row {V : Nat → Value} : ∀ (n : Nat), (∀ i, i < n → ∃ a : Int, V i = .int .i64 a) → ∃ f : Nat → Int, ∀ i, i < n → V i = .int .i64 (f i)
  | 0, _ => ⟨fun _ => 0, fun i h => absurd h (by omega)⟩
  | n + 1, h => by
    obtain ⟨f, hf⟩ := choose_row n (fun i hi => h i (by omega))
    obtain ⟨a, ha⟩ := h n (by omega)
    refine ⟨fun i => if i = n then a else f i, fun i hi => ?_⟩
    by_cases e : i = n
    · subst e
      simpa using ha
    · simp only [if_neg e]
      exact hf i (by omega)
/-- The cells of a slice of integers, wherever it lies. -/
theorem open_Ic {fuel : Nat} {cs : List Value} {y : DataW H × List MemPlace} (h : DataW.trod enc Try.prog w base spare held fuel 23 cs = some y) :
    ∃ (A : Option Addr) (n cap : Nat) (l : List Int), cs = [.slice A n cap] ∧ RowI w A n l ∧ n ≤ cap ∧ cap ≤ maxLen ∧ (A = none → cap = 0) := by
  rcases open_slice1 Try.underlying23 Try.cells3 h with ⟨h0, _⟩ | ⟨a, len, cap, m, k, V, D, Pl, hcs, hb, hl, hm, hmm, _, hi⟩
  · exact ⟨none, 0, 0, [], h0, RowI.nil _ _, Nat.le_refl _, Nat.zero_le _, fun _ => rfl⟩
  · have hlm : len ≤ m := by rw [hmm]; split <;> omega
    obtain ⟨f, hf⟩ := choose_row (V := V) len (fun i hi' => int_of (hi i (by omega)).2)
    refine ⟨some a, len, cap, (List.range len).map f, hcs, ⟨by simp, fun hn => ⟨a, rfl, ?_, fun k v hk => ?_⟩⟩, hl, hm, fun h => by cases h⟩
    · have := (hi 0 (by omega)).1
      exact World.block_lt_of_cell? _ _ this
    · have hkn : k < len := by
        have := (List.getElem?_eq_some_iff.1 hk).1
        simpa using this
      rw [List.getElem?_map, List.getElem?_range hkn] at hk
      simp at hk
      subst hk
      rw [(hi k (by omega)).1, hf k hkn]
set_option maxRecDepth 100000 in
theorem open_I {r : Reach} {b0 : Nat} {v : Value} {d : DataW H} {p : List MemPlace} (hv : Value.okWide Try.prog w r b0 23 v) (h : DataW.Trod enc Try.prog w base spare held 23 v d p) :
    ∃ (A : Option Addr) (n cap : Nat) (l : List Int), v = .slice A n cap ∧ RowI w A n l ∧ n ≤ cap ∧ cap ≤ maxLen ∧ (A = none → cap = 0) := by
  obtain ⟨A, n, cap, rfl⟩ := okWide_slice Try.underlying23 hv
  obtain ⟨fuel, hf⟩ := h
  obtain ⟨A', n', cap', l, hcs, h1, h2, h3, h4⟩ := open_Ic hf
  simp [Value.cells] at hcs
  obtain ⟨rfl, rfl, rfl⟩ := hcs
  exact ⟨_, _, _, l, rfl, h1, h2, h3, h4⟩
end
end Go.Proofs.Ytpklcjbdmikbdaa
namespace Go.Proofs.Ytpklcjbdmikbdaa
open Go.ChangeShapes Go.WideShapes Go.ChangeAt Go.RowKit Go.Joins Go.Deep

theorem Try.cells26 : Try.prog.cellsOf 26 = 2 := by kernel_rfl
theorem Try.cells53 : Try.prog.cellsOf 53 = 3 := by kernel_rfl
theorem Try.cells4 : Try.prog.cellsOf 4 = 1 := by kernel_rfl
theorem Try.cells23 : Try.prog.cellsOf 23 = 1 := by kernel_rfl
theorem Try.cells37 : Try.prog.cellsOf 37 = 4 := by kernel_rfl
theorem add_off {a : Addr} (k i : Nat) (h : 0 < i) : (⟨(a.add k).block, (a.add k).off + i, none⟩ : Addr) = a.add (k + i) := by
  unfold Addr.add
  by_cases hk : k = 0
  · subst hk
    rw [if_pos rfl, if_neg (by omega)]
    simp
  · rw [if_neg hk, if_neg (by omega)]
    simp [Nat.add_assoc]
theorem choose_lt {α : Type} [Inhabited α] {p : Nat → α → Prop} : ∀ {n : Nat}, (∀ i, i < n → ∃ x, p i x) → ∃ f : Nat → α, ∀ i, i < n → p i (f i) := fun {n} h => by
  classical
  refine ⟨fun i => if h' : i < n then Classical.choose (h i h') else default, fun i hi => ?_⟩
  simp only [dif_pos hi]
  exact Classical.choose_spec (h i hi)
instance : Inhabited Prt := ⟨⟨0, 0, false⟩⟩
/-- A part wherever it lies. -/
def PartAny (w : World) (a : Addr) (p : Prt) : Prop := w.cell? a = some (.int .i64 p.lo) ∧ w.cell? ⟨a.block, a.off + 1, none⟩ = some (.int .i64 p.hi) ∧ w.cell? ⟨a.block, a.off + 2, none⟩ = some (.bool p.neg)
/-- A slice of parts, wherever it starts. -/
def PartsA (w : World) (A : Option Addr) (n : Nat) (l : List Prt) : Prop :=
  l.length = n ∧ (0 < n → ∃ a : Addr, A = some a ∧ a.block < w.heap.size ∧ ∀ (k : Nat) (p : Prt), l[k]? = some p → PartAny w (a.add (k * 3)) p)
/-- A slice of spans, wherever it starts. -/
def SpansA (w : World) (A : Option Addr) (n : Nat) (l : List (Int × Int)) : Prop :=
  l.length = n ∧ (0 < n → ∃ a : Addr, A = some a ∧ a.block < w.heap.size ∧ ∀ (k : Nat) (p : Int × Int), l[k]? = some p → w.cell? (a.add (k * 2)) = some (.int .i64 p.1) ∧ w.cell? ⟨(a.add (k * 2)).block, (a.add (k * 2)).off + 1, none⟩ = some (.int .i64 p.2))
section
variable {H : Type} {enc : TypeId × Value → H} {w : World} {base : Nat} {spare : Nat → Bool} {held : Bool}
set_option maxRecDepth 100000 in
theorem span_of {n : Nat} {cs : List Value} {y : DataW H × List MemPlace} (h : DataW.trod enc Try.prog w base spare held n 26 cs = some y) : ∃ a b : Int, cs = [.int .i64 a, .int .i64 b] := by
  obtain ⟨xs, k, rfl, rfl, hlen, hxs, hf⟩ := DataW.trod_struct Try.underlying26 h
  rw [Try.cells26] at hlen
  match cs, hlen with
  | [v0, v1], _ =>
    have hx : xs.length = 2 := by rw [hxs]; rfl
    match xs, hx with
    | [x0, x1], _ =>
      have t0 : DataW.trod enc Try.prog w base spare held k 3 (([v0, v1].drop 0).take (Try.prog.cellsOf 3)) = some x0 := hf 0 _ rfl
      rw [Try.cells3] at t0
      have t1 : DataW.trod enc Try.prog w base spare held k 3 (([v0, v1].drop 1).take (Try.prog.cellsOf 3)) = some x1 := hf 1 _ rfl
      rw [Try.cells3] at t1
      obtain ⟨a, rfl⟩ := int_of (v := v0) (y := x0) t0
      obtain ⟨b, rfl⟩ := int_of (v := v1) (y := x1) t1
      exact ⟨a, b, rfl⟩
set_option maxRecDepth 100000 in
theorem bool_of {n : Nat} {v : Value} {y : DataW H × List MemPlace} (h : DataW.trod enc Try.prog w base spare held n 4 [v] = some y) : ∃ b : Bool, v = .bool b := by
  obtain ⟨b, e, _⟩ := DataW.trod_bool Try.underlying4 h
  exact ⟨b, by simpa using e⟩
set_option maxRecDepth 100000 in
theorem part_of {n : Nat} {cs : List Value} {y : DataW H × List MemPlace} (h : DataW.trod enc Try.prog w base spare held n 53 cs = some y) : ∃ (a b : Int) (g : Bool), cs = [.int .i64 a, .int .i64 b, .bool g] := by
  obtain ⟨xs, k, rfl, rfl, hlen, hxs, hf⟩ := DataW.trod_struct Try.underlying53 h
  rw [Try.cells53] at hlen
  match cs, hlen with
  | [v0, v1, v2], _ =>
    have hx : xs.length = 2 := by rw [hxs]; rfl
    match xs, hx with
    | [x0, x1], _ =>
      have t0 : DataW.trod enc Try.prog w base spare held k 26 (([v0, v1, v2].drop 0).take (Try.prog.cellsOf 26)) = some x0 := hf 0 _ rfl
      rw [Try.cells26] at t0
      have t1 : DataW.trod enc Try.prog w base spare held k 4 (([v0, v1, v2].drop 2).take (Try.prog.cellsOf 4)) = some x1 := hf 1 _ rfl
      rw [Try.cells4] at t1
      obtain ⟨a, b, e⟩ := span_of (cs := [v0, v1]) (y := x0) t0
      obtain ⟨g, rfl⟩ := bool_of (v := v2) (y := x1) t1
      simp at e
      obtain ⟨rfl, rfl⟩ := e
      exact ⟨a, b, g, rfl⟩
set_option maxRecDepth 100000 in
theorem open_G {r : Reach} {b0 : Nat} {v : Value} {d : DataW H} {p : List MemPlace} (hv : Value.okWide Try.prog w r b0 26 v) (h : DataW.Trod enc Try.prog w base spare held 26 v d p) :
    ∃ a b : Int, v = .agg #[.int .i64 a, .int .i64 b] := by
  obtain ⟨cs, rfl, hsz⟩ := okWide_struct Try.underlying26 hv
  obtain ⟨fuel, hf⟩ := h
  obtain ⟨a, b, e⟩ := span_of hf
  refine ⟨a, b, ?_⟩
  have e2 : cs.toList = [.int .i64 a, .int .i64 b] := e
  rw [← Array.toArray_toList (xs := cs), e2]
set_option maxRecDepth 100000 in
theorem open_Q {r : Reach} {b0 : Nat} {v : Value} {d : DataW H} {p : List MemPlace} (hv : Value.okWide Try.prog w r b0 37 v) (h : DataW.Trod enc Try.prog w base spare held 37 v d p) :
    ∃ (A B : Option Addr) (n c m e : Nat) (s t : List Int) (lo hi : Int), v = .agg #[.slice A n c, .slice B m e, .int .i64 lo, .int .i64 hi] ∧ RowI w A n s ∧ n ≤ c ∧ (A = none → c = 0) ∧ RowI w B m t ∧ m ≤ e ∧ (B = none → e = 0) := by
  obtain ⟨cs, rfl, hsz⟩ := okWide_struct Try.underlying37 hv
  obtain ⟨fuel, hf0⟩ := h
  obtain ⟨xs, k, hk, hd, hlen, hxs, hf⟩ := DataW.trod_struct Try.underlying37 hf0
  rw [Try.cells37] at hlen
  obtain ⟨l⟩ := cs
  have hf' := hf
  simp only [Value.cells] at hlen hf'
  match l, hlen with
  | [v0, v1, v2, v3], _ =>
    have hx : xs.length = 3 := by rw [hxs]; rfl
    match xs, hx with
    | [x0, x1, x2], _ =>
      have t0 : DataW.trod enc Try.prog w base spare held k 23 (([v0, v1, v2, v3].drop 0).take (Try.prog.cellsOf 23)) = some x0 := hf 0 _ rfl
      rw [Try.cells23] at t0
      have t1 : DataW.trod enc Try.prog w base spare held k 23 (([v0, v1, v2, v3].drop 1).take (Try.prog.cellsOf 23)) = some x1 := hf 1 _ rfl
      rw [Try.cells23] at t1
      have t2 : DataW.trod enc Try.prog w base spare held k 26 (([v0, v1, v2, v3].drop 2).take (Try.prog.cellsOf 26)) = some x2 := hf 2 _ rfl
      rw [Try.cells26] at t2
      obtain ⟨A, n, c, s, e0, h1, h2, _, h4⟩ := open_Ic (cs := [v0]) (y := x0) t0
      obtain ⟨B, m, e, t, e1, g1, g2, _, g4⟩ := open_Ic (cs := [v1]) (y := x1) t1
      obtain ⟨lo, hi, e2⟩ := span_of (cs := [v2, v3]) (y := x2) t2
      simp at e0 e1 e2
      obtain ⟨rfl, rfl⟩ := e2
      subst e0 e1
      exact ⟨A, B, n, c, m, e, s, t, lo, hi, rfl, h1, h2, h4, g1, g2, g4⟩
set_option maxRecDepth 100000 in
theorem open_R {r : Reach} {b0 : Nat} {v : Value} {d : DataW H} {p : List MemPlace} (hv : Value.okWide Try.prog w r b0 22 v) (h : DataW.Trod enc Try.prog w base spare held 22 v d p) :
    ∃ (A : Option Addr) (n cap : Nat) (l : List Prt), v = .slice A n cap ∧ PartsA w A n l ∧ n ≤ cap ∧ (A = none → cap = 0) := by
  obtain ⟨A, n, cap, rfl⟩ := okWide_slice Try.underlying22 hv
  obtain ⟨fuel, hf⟩ := h
  rcases open_slice Try.underlying22 hf with ⟨h0, _⟩ | ⟨a, len, cap', m, k, D, Pl, hcs, hb, hl, hm, hmm, _, hi⟩
  · simp [Value.cells] at h0
    obtain ⟨rfl, rfl, rfl⟩ := h0
    exact ⟨none, 0, 0, [], rfl, ⟨rfl, fun h => absurd h (by omega)⟩, Nat.le_refl _, fun _ => rfl⟩
  · simp [Value.cells] at hcs
    obtain ⟨rfl, rfl, rfl⟩ := hcs
    have hlm : n ≤ m := by rw [hmm]; split <;> omega
    rw [Try.cells53] at hi
    obtain ⟨f, hf0⟩ := choose_lt (α := Prt) (n := n) (p := fun i j => PartAny w (a.add (i * 3)) j) (fun i hi' => by
      obtain ⟨cs', h1, h2⟩ := hi i (by omega)
      obtain ⟨x0, x1, g, rfl⟩ := part_of h2
      obtain ⟨_, _, hc⟩ := World.cells?_some h1
      have c0 := hc 0 (by omega)
      have c1 := hc 1 (by omega)
      have c2 := hc 2 (by omega)
      rw [Addr.add_add] at c0 c1 c2
      refine ⟨⟨x0, x1, g⟩, c0, ?_, ?_⟩
      · rw [add_off _ 1 (by omega)]; exact c1
      · rw [add_off _ 2 (by omega)]; exact c2)
    refine ⟨some a, n, cap, (List.range n).map f, rfl, ⟨by simp, fun hn => ⟨a, rfl, ?_, fun k j hk => ?_⟩⟩, hl, fun h => by cases h⟩
    · have := World.block_lt_of_cell? _ _ (hf0 0 hn).1
      rwa [add_block] at this
    · have hkn : k < n := by
        have := (List.getElem?_eq_some_iff.1 hk).1
        simpa using this
      rw [List.getElem?_map, List.getElem?_range hkn] at hk
      simp at hk
      subst hk
      exact hf0 k hkn
set_option maxRecDepth 100000 in
theorem open_N {r : Reach} {b0 : Nat} {v : Value} {d : DataW H} {p : List MemPlace} (hv : Value.okWide Try.prog w r b0 58 v) (h : DataW.Trod enc Try.prog w base spare held 58 v d p) :
    ∃ (A : Option Addr) (n cap : Nat) (l : List (Int × Int)), v = .slice A n cap ∧ SpansA w A n l ∧ n ≤ cap ∧ (A = none → cap = 0) := by
  obtain ⟨A, n, cap, rfl⟩ := okWide_slice Try.underlying58 hv
  obtain ⟨fuel, hf⟩ := h
  rcases open_slice Try.underlying58 hf with ⟨h0, _⟩ | ⟨a, len, cap', m, k, D, Pl, hcs, hb, hl, hm, hmm, _, hi⟩
  · simp [Value.cells] at h0
    obtain ⟨rfl, rfl, rfl⟩ := h0
    exact ⟨none, 0, 0, [], rfl, ⟨rfl, fun h => absurd h (by omega)⟩, Nat.le_refl _, fun _ => rfl⟩
  · simp [Value.cells] at hcs
    obtain ⟨rfl, rfl, rfl⟩ := hcs
    have hlm : n ≤ m := by rw [hmm]; split <;> omega
    rw [Try.cells26] at hi
    obtain ⟨f, hf0⟩ := choose_lt (α := Int × Int) (n := n) (p := fun i (j : Int × Int) => w.cell? (a.add (i * 2)) = some (.int .i64 j.1) ∧ w.cell? ⟨(a.add (i * 2)).block, (a.add (i * 2)).off + 1, none⟩ = some (.int .i64 j.2)) (fun i hi' => by
      obtain ⟨cs', h1, h2⟩ := hi i (by omega)
      obtain ⟨x0, x1, rfl⟩ := span_of h2
      obtain ⟨_, _, hc⟩ := World.cells?_some h1
      have c0 := hc 0 (by omega)
      have c1 := hc 1 (by omega)
      rw [Addr.add_add] at c0 c1
      refine ⟨⟨x0, x1⟩, c0, ?_⟩
      rw [add_off _ 1 (by omega)]; exact c1)
    refine ⟨some a, n, cap, (List.range n).map f, rfl, ⟨by simp, fun hn => ⟨a, rfl, ?_, fun k j hk => ?_⟩⟩, hl, fun h => by cases h⟩
    · have := World.block_lt_of_cell? _ _ (hf0 0 hn).1
      rwa [add_block] at this
    · have hkn : k < n := by
        have := (List.getElem?_eq_some_iff.1 hk).1
        simpa using this
      rw [List.getElem?_map, List.getElem?_range hkn] at hk
      simp at hk
      subst hk
      exact hf0 k hkn
end
end Go.Proofs.Ytpklcjbdmikbdaa
namespace Go.Proofs.Ytpklcjbdmikbdaa
open Go.RowKit

def CutR (w : World) (l : List Int) (e : Ending) (w' : World) : Prop := ∃ v, e = .returned v ∧ w'.ownsRow w.heap.size 3 1 v l.length (l.map (Value.int .i64)) ∧ Below w.heap.size w w'
theorem CutR.of {w w1 : World} {l : List Int} {k : Nat} {v : Value} (hl : l.length = k) (h1 : w1.ownsRow w.heap.size 3 1 v k (l.map (Value.int .i64))) (h2 : (w.alloc (.cells #[] 3)).grownBy w1 (some w.heap.size)) : CutR w l (.returned v) w1 :=
  ⟨v, rfl, by rw [hl]; exact h1, ((Below.refl _ _).alloc (Nat.le_refl _) _).grown h2 (by simp) (fun q hq => by simp at hq; omega)⟩
set_option maxHeartbeats 2000000 in
theorem cut_any (A : Option Addr) (n c q : Nat) (l : List Int) (w : World) (rA : RowI w A n l) (hc : n ≤ c) (hnil : A = none → c = 0) (hq : q ≤ 100) :
    Calls Try.prog 32 #[.slice A n c, .int .i64 q] w (CutR w (l.take q)) := by
  have hb0 : Below w.heap.size w (w.alloc (.cells #[] 3)) := (Below.refl _ _).alloc (Nat.le_refl _) _
  have hmade : (w.alloc (.cells #[] 3)).ownsRow w.heap.size 3 1 (.slice (some ⟨w.heap.size, 0, none⟩) 0 0) 0 (([] : List Int).map (Value.int .i64)) := World.ownsRow_made (base := w.heap.size) (e := 3) (size := 1) w #[] 0 (by simp) (by unfold maxLen; omega) (by simp)
  have hll := Lib.hid rA.1
  have rA1 := rA.later hb0
  obtain ⟨k, hk⟩ : ∃ k, k = min n q := ⟨_, rfl⟩
  have hmin : min (n : Int) (q : Int) = (k : Int) := by omega
  have hT := rA1.take (m := k) (by omega)
  have HC : Hid ((l.take q).length = k) := by show _ = _; rw [List.length_take]; have := hll.out; omega
  have e1 : Hid (l.take q = l.take k) := by
    show _ = _
    have h1 := hll.out
    rcases Nat.le_total n q with h | h
    · rw [List.take_of_length_le (by omega), List.take_of_length_le (by omega)]
    · rw [show k = q by omega]
  have hkc : k ≤ c := by omega
  have hkci : (k : Int) ≤ (c : Int) := by omega
  have hkq : k ≤ 100 := by omega
  have hnil' := Lib.hid hnil
  clear rA hb0 hk rA1 hnil
  rcases A with _ | a
  · have hc0 := hnil'.out rfl
    have hk0 : k = 0 := by omega
    subst hc0 hk0
    go_enter Try.func32, Try.ntmps32
    go_wp2_with (at_builtin; refine app_ints _ rfl (.tmp 5) (.tmp 11) rfl w.heap.size _ 0 [] rfl hmade none 0 0 (l.take 0) rfl hT (by omega) (by simp) ?_)
    all_goals
      intro v w1 hown hgr
      have hown2 : w1.ownsRow w.heap.size 3 1 v 0 ((l.take q).map (Value.int .i64)) := by rw [e1.out]; simpa using hown
      have hfin := CutR.of HC.out hown2 (by simpa [Value.ownBlock] using hgr)
      have HFin := Lib.hid hfin
      clear hfin hown hown2 hgr
      go_wp2_with fail
      go_ret
      exact HFin.out
  · go_enter Try.func32, Try.ntmps32
    go_wp2_with (at_builtin; refine app_ints _ rfl (.tmp 5) (.tmp 11) rfl w.heap.size _ 0 [] rfl hmade (some a) k c (l.take k) rfl hT (by omega) (by simp) ?_)
    all_goals
      intro v w1 hown hgr
      have hown2 : w1.ownsRow w.heap.size 3 1 v k ((l.take q).map (Value.int .i64)) := by rw [e1.out]; simpa using hown
      have hfin := CutR.of HC.out hown2 (by simpa [Value.ownBlock] using hgr)
      have HFin := Lib.hid hfin
      clear hfin hown hown2 hgr
      go_wp2_with fail
      go_ret
      exact HFin.out
end Go.Proofs.Ytpklcjbdmikbdaa
