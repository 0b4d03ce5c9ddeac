/-
  The seat's texts Seat Frame OpenI OpenF in one: the contracts of the functions that the law reaches, and the plain laws that they rest on.
  Conditions: as each theorem states them.
-/
import Derived.Test.YtpklcjbdmikbdaaGreatRows
import Derived.ProofKit
import Derived.Test.YtpklcjbdmikbdaaGreatGK
import Derived.OpenShut
import Derived.Lib.SmallJoins
import Derived.Deep.Slices
import Derived.Test.YtpklcjbdmikbdaaGreatGX
namespace Go.Proofs.YtpklcjbdmikbdaaGreat
theorem and_t {a b : Bool} (ha : a = true) (hb : b = true) : (a && b) = true := by rw [ha, hb]; rfl
set_option maxRecDepth 100000 in
theorem Tryz.head : Tryz.prog.initOrder = String.ofList (([104, 97, 114, 110, 101, 115, 115, 32, 101, 53, 98, 53, 56, 55, 101, 54, 98, 52, 53, 48, 101, 51, 49, 48, 56, 52, 57, 55, 50, 49, 54, 102, 100, 53, 99, 98, 53, 52, 55, 53, 57, 53,
    97, 102, 97, 55, 50, 49, 49, 52, 98, 53, 100, 98, 99, 55, 100, 57, 51, 102, 49, 102, 50, 51, 51, 51, 50, 97, 52, 50, 55, 54, 32, 99, 117, 116, 32, 97, 116, 32, 116, 111, 117, 114,
    98, 105, 108, 108, 111, 110, 47, 116, 111, 117, 114, 98, 105, 108, 108, 111, 110, 108, 97, 119, 48, 50, 46, 70, 105, 116, 67, 111, 117, 110, 116, 115, 32, 116, 111, 117, 114, 98,
    105, 108, 108, 111, 110, 47, 116, 111, 117, 114, 98, 105, 108, 108, 111, 110, 108, 97, 119, 48, 50, 46, 70, 105, 116, 78, 97, 114, 114, 111, 119, 115] : List Nat).map Char.ofNat) := by kernel_rfl
set_option maxRecDepth 100000 in
theorem Tryz.signs : Tryz.prog.initOrder.toList = ([104, 97, 114, 110, 101, 115, 115, 32, 101, 53, 98, 53, 56, 55, 101, 54, 98, 52, 53, 48, 101, 51, 49, 48, 56, 52, 57, 55, 50, 49, 54, 102, 100, 53, 99, 98, 53, 52, 55, 53, 57, 53,
    97, 102, 97, 55, 50, 49, 49, 52, 98, 53, 100, 98, 99, 55, 100, 57, 51, 102, 49, 102, 50, 51, 51, 51, 50, 97, 52, 50, 55, 54, 32, 99, 117, 116, 32, 97, 116, 32, 116, 111, 117, 114,
    98, 105, 108, 108, 111, 110, 47, 116, 111, 117, 114, 98, 105, 108, 108, 111, 110, 108, 97, 119, 48, 50, 46, 70, 105, 116, 67, 111, 117, 110, 116, 115, 32, 116, 111, 117, 114, 98,
    105, 108, 108, 111, 110, 47, 116, 111, 117, 114, 98, 105, 108, 108, 111, 110, 108, 97, 119, 48, 50, 46, 70, 105, 116, 78, 97, 114, 114, 111, 119, 115] : List Nat).map Char.ofNat := by rw [Tryz.head, String.toList_ofList]
set_option maxRecDepth 100000 in
theorem Tryz.words : ∃ r, behindMainWord (wordsSigns Tryz.prog.initOrder.toList) = (([99, 117, 116] : List Nat).map Char.ofNat) :: r :=
  ⟨(behindMainWord (wordsSigns (([104, 97, 114, 110, 101, 115, 115, 32, 101, 53, 98, 53, 56, 55, 101, 54, 98, 52, 53, 48, 101, 51, 49, 48, 56, 52, 57, 55, 50, 49, 54, 102, 100, 53, 99, 98, 53, 52, 55, 53, 57, 53,
    97, 102, 97, 55, 50, 49, 49, 52, 98, 53, 100, 98, 99, 55, 100, 57, 51, 102, 49, 102, 50, 51, 51, 51, 50, 97, 52, 50, 55, 54, 32, 99, 117, 116, 32, 97, 116, 32, 116, 111, 117, 114,
    98, 105, 108, 108, 111, 110, 47, 116, 111, 117, 114, 98, 105, 108, 108, 111, 110, 108, 97, 119, 48, 50, 46, 70, 105, 116, 67, 111, 117, 110, 116, 115, 32, 116, 111, 117, 114, 98,
    105, 108, 108, 111, 110, 47, 116, 111, 117, 114, 98, 105, 108, 108, 111, 110, 108, 97, 119, 48, 50, 46, 70, 105, 116, 78, 97, 114, 114, 111, 119, 115] : List Nat).map Char.ofNat))).tail, by rw [Tryz.signs]; kernel_rfl⟩
/-- The word 'cut'. -/
def cutSigns : List Char := ([99, 117, 116] : List Nat).map Char.ofNat
theorem cut_e1 : (cutSigns == "gc".toList || cutSigns == "spec".toList) = false := by kernel_rfl
theorem cut_e2 : (cutSigns == "cut".toList) = true := by kernel_rfl
theorem cut_e3 : (cutSigns == "carried".toList) = false := by kernel_rfl
theorem cut_e4 : (some cutSigns == some "cut".toList) = true := by kernel_rfl
theorem cut_strip (r : List (List Char)) : stripLifts liftWords (cutSigns :: r) = ([], cutSigns :: r) := by kernel_rfl
theorem heads_of {P : Program} {r : List (List Char)} (h : behindMainWord (wordsSigns P.initOrder.toList) = cutSigns :: r) : P.headLifts = [] := by
  unfold Program.headLifts
  rw [h, cut_strip]
  simp
theorem make_of {P : Program} {r : List (List Char)} (h : behindMainWord (wordsSigns P.initOrder.toList) = cutSigns :: r) : P.make = some .cut := by
  unfold Program.make
  rw [h]
  simp only [cut_e1, cut_e2, Bool.true_or, if_true, Bool.false_eq_true, if_false]
theorem enter_of {P : Program} {r : List (List Char)} (h : behindMainWord (wordsSigns P.initOrder.toList) = cutSigns :: r) (h1 : P.laysLater = false) (h2 : P.bearsReflect = false) (h3 : P.doorFits [] = true) : P.mayEnter = true := by
  unfold Program.mayEnter
  rw [h]
  simp only [cut_strip, h1, h2, h3, List.head?_cons, cut_e4]
  simp
theorem Tryz.made : Tryz.prog.make = some .cut := by
  obtain ⟨r, h⟩ := Tryz.words
  exact make_of h
theorem Tryz.finals : Tryz.prog.liftsFinal = false := by
  obtain ⟨r, h⟩ := Tryz.words
  unfold Program.liftsFinal
  rw [heads_of h, h]
  kernel_rfl
theorem Tryz.later : Tryz.prog.laysLater = false := by kernel_rfl
theorem Tryz.reflect : Tryz.prog.bearsReflect = false := by kernel_rfl
theorem Tryz.door : Tryz.prog.doorFits [] = true := by kernel_rfl
theorem Tryz.enters : Tryz.prog.mayEnter = true := by
  obtain ⟨r, h⟩ := Tryz.words
  exact enter_of h Tryz.later Tryz.reflect Tryz.door
end Go.Proofs.YtpklcjbdmikbdaaGreat
namespace Go.Proofs.YtpklcjbdmikbdaaGreat
set_option maxRecDepth 100000
open Go.ChangeShapes Go.WideShapes Go.ChangeAt Go.RowKit

theorem Tryz.own : ownKnob Tryz.prog.godebug = none := by kernel_rfl
theorem Tryz.laidOut : laidOutB Tryz.prog = true := by kernel_rfl

theorem trodAll_below {H : Type} {enc : TypeId × Value → H} {P : Program} (hl : laidOutB P = true) {W W' : World} (hb : Below W.heap.size W W') :
    ∀ {ts : List TypeId} {vs : List Value} {ds : List (DataW H)} {ps : List MemPlace}, (∀ t ∈ ts, P.readableRec t = true ∧ t < P.types.size) → (∀ x ∈ ps, x.block < W.heap.size) →
      DataW.TrodAll enc P W 0 (fun _ => true) true ts vs ds ps → DataW.TrodAll enc P W' 0 (fun b => decide (b < W.heap.size)) true ts vs ds ps
  | [], [], [], _, _, _, h => h
  | t :: _, _ :: _, _ :: _, _, hT, hlt, ⟨p, q, h1, h2, e⟩ =>
    ⟨p, q, Below.trod hl (hT t (List.mem_cons.2 (Or.inl rfl))).1 (hT t (List.mem_cons.2 (Or.inl rfl))).2 h1 hb (fun x hx => hlt x (by rw [e]; exact List.mem_append_left _ hx)),
      trodAll_below hl hb (fun t ht => hT t (List.mem_cons.2 (Or.inr ht))) (fun x hx => hlt x (by rw [e]; exact List.mem_append_right _ hx)) h2, e⟩

section
variable {H : Type} {enc : TypeId × Value → H}
theorem law_post {f : Func} {s : ChangeSpec} {W W' : World} {args : Array Value} {ds gs : List (DataW H)} {before : List MemPlace} (hv : s.vars = [])
    (hr : f.resultTypes = #[4]) (hT : f.params.toList.all (fun t => Tryz.prog.readableRec t && decide (t < Tryz.prog.types.size)) = true)
    (hW : DataW.Whole enc Tryz.prog f.params.toList s.vars false W args.toList ds gs before)
    (hs : (s.fn H (ds ++ gs)).results = [.lit (.bool true)]) (ha : (s.fn H (ds ++ gs)).args = ds) (hvs : (s.fn H (ds ++ gs)).vars = []) (hb : Below W.heap.size W W') :
    s.post enc Tryz.prog f false true false false W args (.bool true) W' := by
  have hlt : ∀ p ∈ before, p.block < W.heap.size := fun p hp => hW.lt p hp
  have hT' : ∀ t ∈ f.params.toList, Tryz.prog.readableRec t = true ∧ t < Tryz.prog.types.size := fun t ht => by
    have := List.all_eq_true.1 hT t ht
    simpa using this
  have hW' := hW
  obtain ⟨p, q, hA, hV, rfl, _, _⟩ := hW
  rw [hv] at hV
  match gs, hV with
  | [], hV =>
    obtain ⟨_, rfl⟩ := trodVars_none hV
    simp only [List.append_nil] at hlt hW'
    refine ⟨ds, [], p, [], p, [], hW', ?_, ?_, ?_, hb.frame _, fun h => by cases h⟩
    · rw [hs, hr]
      exact trodAll_mk1 (shut_bool Tryz.underlying4 true)
    · rw [ha]
      exact trodAll_below Tryz.laidOut hb hT' hlt hA
    · rw [hv, hvs]
      exact rfl
  | _ :: _, hV => exact hV.elim
end
end Go.Proofs.YtpklcjbdmikbdaaGreat
namespace Go.Proofs.YtpklcjbdmikbdaaGreat
set_option maxRecDepth 100000
open Go.ChangeShapes Go.WideShapes Go.ChangeAt Go.RowKit Go.Joins Go.Deep

section
variable {H : Type} {enc : TypeId × Value → H} {w : World} {base : Nat} {spare : Nat → Bool} {held : Bool}
theorem Tryz.cells3 : Tryz.prog.cellsOf 3 = 1 := by kernel_rfl
theorem int_of {n : Nat} {v : Value} {y : DataW H × List MemPlace} (h : DataW.trod enc Tryz.prog w base spare held n 3 [v] = some y) : ∃ a : Int, v = .int .i64 a := by
  obtain ⟨a, e, _, _⟩ := DataW.trod_int Tryz.underlying3 h
  exact ⟨a, by simpa using e⟩
theorem choose_row {V : Nat → Value} : ∀ (n : Nat), (∀ i, i < n → ∃ a : Int, V i = .int .i64 a) → ∃ f : Nat → Int, ∀ i, i < n → V i = .int .i64 (f i)
  | 0, _ => ⟨fun _ => 0, fun i h => absurd h (by omega)⟩
  | n + 1, h => by
    obtain ⟨f, hf⟩ := choose_row n (fun i hi => h i (by omega))
    obtain ⟨a, ha⟩ := h n (by omega)
    refine ⟨fun i => if i = n then a else f i, fun i hi => ?_⟩
    by_cases e : i = n
    · subst e
      simpa using ha
    · simp only [if_neg e]
      exact hf i (by omega)
/-- The cells of a slice of integers, wherever it lies. -/
theorem open_Ic {fuel : Nat} {cs : List Value} {y : DataW H × List MemPlace} (h : DataW.trod enc Tryz.prog w base spare held fuel 43 cs = some y) :
    ∃ (A : Option Addr) (n cap : Nat) (l : List Int), cs = [.slice A n cap] ∧ RowI w A n l ∧ n ≤ cap ∧ cap ≤ maxLen ∧ (A = none → cap = 0) := by
  rcases open_slice1 Tryz.underlying43 Tryz.cells3 h with ⟨h0, _⟩ | ⟨a, len, cap, m, k, V, D, Pl, hcs, hb, hl, hm, hmm, _, hi⟩
  · exact ⟨none, 0, 0, [], h0, RowI.nil _ _, Nat.le_refl _, Nat.zero_le _, fun _ => rfl⟩
  · have hlm : len ≤ m := by rw [hmm]; split <;> omega
    obtain ⟨f, hf⟩ := choose_row (V := V) len (fun i hi' => int_of (hi i (by omega)).2)
    refine ⟨some a, len, cap, (List.range len).map f, hcs, ⟨by simp, fun hn => ⟨a, rfl, ?_, fun k v hk => ?_⟩⟩, hl, hm, fun h => by cases h⟩
    · have := (hi 0 (by omega)).1
      exact World.block_lt_of_cell? _ _ this
    · have hkn : k < len := by
        have := (List.getElem?_eq_some_iff.1 hk).1
        simpa using this
      rw [List.getElem?_map, List.getElem?_range hkn] at hk
      simp at hk
      subst hk
      rw [(hi k (by omega)).1, hf k hkn]
set_option maxRecDepth 100000 in
theorem open_I {r : Reach} {b0 : Nat} {v : Value} {d : DataW H} {p : List MemPlace} (hv : Value.okWide Tryz.prog w r b0 43 v) (h : DataW.Trod enc Tryz.prog w base spare held 43 v d p) :
    ∃ (A : Option Addr) (n cap : Nat) (l : List Int), v = .slice A n cap ∧ RowI w A n l ∧ n ≤ cap ∧ cap ≤ maxLen ∧ (A = none → cap = 0) := by
  obtain ⟨A, n, cap, rfl⟩ := okWide_slice Tryz.underlying43 hv
  obtain ⟨fuel, hf⟩ := h
  obtain ⟨A', n', cap', l, hcs, h1, h2, h3, h4⟩ := open_Ic hf
  simp [Value.cells] at hcs
  obtain ⟨rfl, rfl, rfl⟩ := hcs
  exact ⟨_, _, _, l, rfl, h1, h2, h3, h4⟩
end
end Go.Proofs.YtpklcjbdmikbdaaGreat
namespace Go.Proofs.YtpklcjbdmikbdaaGreat
set_option maxRecDepth 100000
open Go.ChangeShapes Go.WideShapes Go.ChangeAt Go.RowKit Go.Joins Go.Deep

theorem Tryz.cells24 : Tryz.prog.cellsOf 24 = 2 := by kernel_rfl
theorem Tryz.cells50 : Tryz.prog.cellsOf 50 = 3 := by kernel_rfl
theorem Tryz.cells4 : Tryz.prog.cellsOf 4 = 1 := by kernel_rfl
theorem Tryz.cells43 : Tryz.prog.cellsOf 43 = 1 := by kernel_rfl
theorem add_off {a : Addr} (k i : Nat) (h : 0 < i) : (⟨(a.add k).block, (a.add k).off + i, none⟩ : Addr) = a.add (k + i) := by
  unfold Addr.add
  by_cases hk : k = 0
  · subst hk
    rw [if_pos rfl, if_neg (by omega)]
    simp
  · rw [if_neg hk, if_neg (by omega)]
    simp [Nat.add_assoc]
theorem choose_lt {α : Type} [Inhabited α] {p : Nat → α → Prop} : ∀ {n : Nat}, (∀ i, i < n → ∃ x, p i x) → ∃ f : Nat → α, ∀ i, i < n → p i (f i) := fun {n} h => by
  classical
  refine ⟨fun i => if h' : i < n then Classical.choose (h i h') else default, fun i hi => ?_⟩
  simp only [dif_pos hi]
  exact Classical.choose_spec (h i hi)
instance : Inhabited Prt := ⟨⟨0, 0, false⟩⟩
/-- A part wherever it lies. -/
def PartAny (w : World) (a : Addr) (p : Prt) : Prop := w.cell? a = some (.int .i64 p.lo) ∧ w.cell? ⟨a.block, a.off + 1, none⟩ = some (.int .i64 p.hi) ∧ w.cell? ⟨a.block, a.off + 2, none⟩ = some (.bool p.neg)
/-- A slice of parts, wherever it starts. -/
def PartsA (w : World) (A : Option Addr) (n : Nat) (l : List Prt) : Prop :=
  l.length = n ∧ (0 < n → ∃ a : Addr, A = some a ∧ a.block < w.heap.size ∧ ∀ (k : Nat) (p : Prt), l[k]? = some p → PartAny w (a.add (k * 3)) p)
section
variable {H : Type} {enc : TypeId × Value → H} {w : World} {base : Nat} {spare : Nat → Bool} {held : Bool}
set_option maxRecDepth 100000 in
theorem span_of {n : Nat} {cs : List Value} {y : DataW H × List MemPlace} (h : DataW.trod enc Tryz.prog w base spare held n 24 cs = some y) : ∃ a b : Int, cs = [.int .i64 a, .int .i64 b] := by
  obtain ⟨xs, k, rfl, rfl, hlen, hxs, hf⟩ := DataW.trod_struct Tryz.underlying24 h
  rw [Tryz.cells24] at hlen
  match cs, hlen with
  | [v0, v1], _ =>
    have hx : xs.length = 2 := by rw [hxs]; rfl
    match xs, hx with
    | [x0, x1], _ =>
      have t0 : DataW.trod enc Tryz.prog w base spare held k 3 (([v0, v1].drop 0).take (Tryz.prog.cellsOf 3)) = some x0 := hf 0 _ rfl
      rw [Tryz.cells3] at t0
      have t1 : DataW.trod enc Tryz.prog w base spare held k 3 (([v0, v1].drop 1).take (Tryz.prog.cellsOf 3)) = some x1 := hf 1 _ rfl
      rw [Tryz.cells3] at t1
      obtain ⟨a, rfl⟩ := int_of (v := v0) (y := x0) t0
      obtain ⟨b, rfl⟩ := int_of (v := v1) (y := x1) t1
      exact ⟨a, b, rfl⟩
set_option maxRecDepth 100000 in
theorem bool_of {n : Nat} {v : Value} {y : DataW H × List MemPlace} (h : DataW.trod enc Tryz.prog w base spare held n 4 [v] = some y) : ∃ b : Bool, v = .bool b := by
  obtain ⟨b, e, _⟩ := DataW.trod_bool Tryz.underlying4 h
  exact ⟨b, by simpa using e⟩
set_option maxRecDepth 100000 in
theorem part_of {n : Nat} {cs : List Value} {y : DataW H × List MemPlace} (h : DataW.trod enc Tryz.prog w base spare held n 50 cs = some y) : ∃ (a b : Int) (g : Bool), cs = [.int .i64 a, .int .i64 b, .bool g] := by
  obtain ⟨xs, k, rfl, rfl, hlen, hxs, hf⟩ := DataW.trod_struct Tryz.underlying50 h
  rw [Tryz.cells50] at hlen
  match cs, hlen with
  | [v0, v1, v2], _ =>
    have hx : xs.length = 2 := by rw [hxs]; rfl
    match xs, hx with
    | [x0, x1], _ =>
      have t0 : DataW.trod enc Tryz.prog w base spare held k 24 (([v0, v1, v2].drop 0).take (Tryz.prog.cellsOf 24)) = some x0 := hf 0 _ rfl
      rw [Tryz.cells24] at t0
      have t1 : DataW.trod enc Tryz.prog w base spare held k 4 (([v0, v1, v2].drop 2).take (Tryz.prog.cellsOf 4)) = some x1 := hf 1 _ rfl
      rw [Tryz.cells4] at t1
      obtain ⟨a, b, e⟩ := span_of (cs := [v0, v1]) (y := x0) t0
      obtain ⟨g, rfl⟩ := bool_of (v := v2) (y := x1) t1
      simp at e
      obtain ⟨rfl, rfl⟩ := e
      exact ⟨a, b, g, rfl⟩
set_option maxRecDepth 100000 in
theorem open_G {r : Reach} {b0 : Nat} {v : Value} {d : DataW H} {p : List MemPlace} (hv : Value.okWide Tryz.prog w r b0 24 v) (h : DataW.Trod enc Tryz.prog w base spare held 24 v d p) :
    ∃ a b : Int, v = .agg #[.int .i64 a, .int .i64 b] := by
  obtain ⟨cs, rfl, hsz⟩ := okWide_struct Tryz.underlying24 hv
  obtain ⟨fuel, hf⟩ := h
  obtain ⟨a, b, e⟩ := span_of hf
  refine ⟨a, b, ?_⟩
  have e2 : cs.toList = [.int .i64 a, .int .i64 b] := e
  rw [← Array.toArray_toList (xs := cs), e2]
set_option maxRecDepth 100000 in
theorem open_R {r : Reach} {b0 : Nat} {v : Value} {d : DataW H} {p : List MemPlace} (hv : Value.okWide Tryz.prog w r b0 22 v) (h : DataW.Trod enc Tryz.prog w base spare held 22 v d p) :
    ∃ (A : Option Addr) (n cap : Nat) (l : List Prt), v = .slice A n cap ∧ PartsA w A n l ∧ n ≤ cap ∧ (A = none → cap = 0) := by
  obtain ⟨A, n, cap, rfl⟩ := okWide_slice Tryz.underlying22 hv
  obtain ⟨fuel, hf⟩ := h
  rcases open_slice Tryz.underlying22 hf with ⟨h0, _⟩ | ⟨a, len, cap', m, k, D, Pl, hcs, hb, hl, hm, hmm, _, hi⟩
  · simp [Value.cells] at h0
    obtain ⟨rfl, rfl, rfl⟩ := h0
    exact ⟨none, 0, 0, [], rfl, ⟨rfl, fun h => absurd h (by omega)⟩, Nat.le_refl _, fun _ => rfl⟩
  · simp [Value.cells] at hcs
    obtain ⟨rfl, rfl, rfl⟩ := hcs
    have hlm : n ≤ m := by rw [hmm]; split <;> omega
    rw [Tryz.cells50] at hi
    obtain ⟨f, hf0⟩ := choose_lt (α := Prt) (n := n) (p := fun i j => PartAny w (a.add (i * 3)) j) (fun i hi' => by
      obtain ⟨cs', h1, h2⟩ := hi i (by omega)
      obtain ⟨x0, x1, g, rfl⟩ := part_of h2
      obtain ⟨_, _, hc⟩ := World.cells?_some h1
      have c0 := hc 0 (by omega)
      have c1 := hc 1 (by omega)
      have c2 := hc 2 (by omega)
      rw [Addr.add_add] at c0 c1 c2
      refine ⟨⟨x0, x1, g⟩, c0, ?_, ?_⟩
      · rw [add_off _ 1 (by omega)]; exact c1
      · rw [add_off _ 2 (by omega)]; exact c2)
    refine ⟨some a, n, cap, (List.range n).map f, rfl, ⟨by simp, fun hn => ⟨a, rfl, ?_, fun k j hk => ?_⟩⟩, hl, fun h => by cases h⟩
    · have := World.block_lt_of_cell? _ _ (hf0 0 hn).1
      rwa [add_block] at this
    · have hkn : k < n := by
        have := (List.getElem?_eq_some_iff.1 hk).1
        simpa using this
      rw [List.getElem?_map, List.getElem?_range hkn] at hk
      simp at hk
      subst hk
      exact hf0 k hkn
end
end Go.Proofs.YtpklcjbdmikbdaaGreat
