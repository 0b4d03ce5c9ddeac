/-
  The seat's texts Sort6 in one: the contracts of the functions that the law reaches, and the plain laws that they rest on.
  Conditions: as each theorem states them.
-/
import Derived.Test.YtnfcigbiebbjdaaG2
namespace Go.Proofs.Ytnfcigbiebbjdaa
open Go.RowKit

/-- What is said of the merge of two runs. -/
def Merges (g : Nat) (cb : Array Value) (cf : Int → Int → Int) (w0 : World) (R : Nat) (D : Int → Prop) (le : Int → Int → Prop) (f : Nat) : Prop :=
  ∀ (P A B Q : List Int) (cap : Nat) (w : World), A.length + B.length ≤ f → 0 < A.length → 0 < B.length → (∀ x ∈ A ++ B, D x) → (∀ x ∈ A, ∀ y ∈ B, Agrees cf le x y) → A.Pairwise le → B.Pairwise le →
    RowB w R (P ++ A ++ B ++ Q) → w0.grownBy w (some R) → ∀ (a m b N : Nat), a = P.length → m = P.length + A.length → b = P.length + A.length + B.length → N = (P ++ A ++ B ++ Q).length → N ≤ 1000 →
    Calls Try.prog 92 #[.slice (some ⟨R, 0, none⟩) N cap, .int .i64 a, .int .i64 m, .int .i64 b, .func (.func g) #[] cb] w fun e w' =>
      e = .returned (.tuple #[]) ∧ ∃ C', C'.Perm (A ++ B) ∧ C'.Pairwise le ∧ RowB w' R (P ++ C' ++ Q) ∧ w0.grownBy w' (some R)

theorem runs_at {A B : List Int} (P Q : List Int) {i j : Nat} {x y : Int} (hx : A[i]? = some x) (hy : B[j]? = some y) : (P ++ A ++ B ++ Q)[P.length + i]? = some x ∧ (P ++ A ++ B ++ Q)[P.length + A.length + j]? = some y := by
  have h1 := (List.getElem?_eq_some_iff.1 hx).1
  have h2 := (List.getElem?_eq_some_iff.1 hy).1
  constructor
  · rw [List.append_assoc, List.append_assoc, List.getElem?_append_right (by omega), show P.length + i - P.length = i by omega, List.getElem?_append_left h1]
    exact hx
  · rw [List.append_assoc, ← List.length_append, List.getElem?_append_right (by omega), show (P ++ A).length + j - (P ++ A).length = j by omega, List.getElem?_append_left h2]
    exact hy
/-- What the search knows of its lower end. -/
def Lft (le : Int → Int → Prop) (A B : List Int) (a m b n st : Nat) : Prop :=
  a ≤ st ∧ n ≤ b + st ∧ (st = a ∨ n = b + st ∨ ∃ x y, a < st ∧ A[st - 1 - a]? = some x ∧ B[n - st - m]? = some y ∧ le x y)
/-- .. and of its upper end. -/
def Rgt (le : Int → Int → Prop) (A B : List Int) (a m mid p r : Nat) : Prop :=
  r ≤ m ∧ r ≤ mid ∧ (r = m ∨ r = mid ∨ ∃ x y, a ≤ r ∧ A[r - a]? = some x ∧ B[p - r - m]? = some y ∧ ¬ le x y)
/-- Where the two runs are cut: s elements of the first are kept ahead, e of the second are led ahead. -/
def Cross (le : Int → Int → Prop) (A B : List Int) (s e : Nat) : Prop :=
  s ≤ A.length ∧ e ≤ B.length ∧ (∀ x ∈ A.take s, ∀ y ∈ B.drop e, le x y) ∧ ∀ y ∈ B.take e, ∀ x ∈ A.drop s, le y x

theorem cross_of {le : Int → Int → Prop} (T : TotLe le) {A B : List Int} (sA : A.Pairwise le) (sB : B.Pairwise le) {a m b n mid p st s e : Nat} (hl : Lft le A B a m b n st) (hr : Rgt le A B a m mid p st)
    (hm : m = a + A.length) (hb : b = m + B.length) (hn : n = mid + m) (hp : p = n - 1) (hs : s = st - a) (he : e = n - st - m) : Cross le A B s e := by
  obtain ⟨l1, l2, l3⟩ := hl
  obtain ⟨r1, r2, r3⟩ := hr
  refine ⟨by omega, by omega, fun x hx y hy => ?_, fun y hy x hx => ?_⟩
  · obtain ⟨i, hi⟩ := List.getElem?_of_mem hx
    obtain ⟨j, hj⟩ := List.getElem?_of_mem hy
    rw [List.getElem?_take] at hi
    rw [List.getElem?_drop] at hj
    split at hi
    · rename_i his
      have hjb := (List.getElem?_eq_some_iff.1 hj).1
      rcases l3 with h | h | ⟨x0, y0, h0, hx0, hy0, hle⟩
      · omega
      · omega
      · exact T.trans x x0 y (sorted_at T sA (by omega) hi hx0) (T.trans x0 y0 y hle (sorted_at T sB (by omega) hy0 hj))
    · simp at hi
  · obtain ⟨i, hi⟩ := List.getElem?_of_mem hx
    obtain ⟨j, hj⟩ := List.getElem?_of_mem hy
    rw [List.getElem?_take] at hj
    rw [List.getElem?_drop] at hi
    split at hj
    · rename_i hje
      have hia := (List.getElem?_eq_some_iff.1 hi).1
      rcases r3 with h | h | ⟨x0, y0, h0, hx0, hy0, hle⟩
      · omega
      · omega
      · have h1 := (T.total x0 y0).resolve_left hle
        exact T.trans y y0 x (sorted_at T sB (by omega) hj hy0) (T.trans y0 x0 x h1 (sorted_at T sA (by omega) hx0 hi))
    · simp at hj

set_option maxRecDepth 100000 in
set_option maxHeartbeats 8000000 in
theorem merge_step {g : Nat} {cb : Array Value} {cf : Int → Int → Int} {w0 : World} {R : Nat} {D : Int → Prop} (C : Cmp g cb cf w0 R D) {le : Int → Int → Prop} (T : TotLe le) (f : Nat) (IH : Merges g cb cf w0 R D le f)
    (P A B Q : List Int) (cap : Nat) (w : World) (hf : A.length + B.length ≤ f + 1) (hA2 : 2 ≤ A.length) (hB2 : 2 ≤ B.length) (hD : ∀ x ∈ A ++ B, D x) (hX : ∀ x ∈ A, ∀ y ∈ B, Agrees cf le x y) (sA : A.Pairwise le) (sB : B.Pairwise le)
    (hB : RowB w R (P ++ A ++ B ++ Q)) (hw : w0.grownBy w (some R)) (a m b N : Nat) (ha : a = P.length) (hm : m = P.length + A.length) (hb : b = P.length + A.length + B.length) (hN : N = (P ++ A ++ B ++ Q).length) (hl : N ≤ 1000) :
    Calls Try.prog 92 #[.slice (some ⟨R, 0, none⟩) N cap, .int .i64 a, .int .i64 m, .int .i64 b, .func (.func g) #[] cb] w fun e w' =>
      e = .returned (.tuple #[]) ∧ ∃ C', C'.Perm (A ++ B) ∧ C'.Pairwise le ∧ RowB w' R (P ++ C' ++ Q) ∧ w0.grownBy w' (some R) := by
  have eg := C.enters
  have HC := Lib.hid C
  have HT := Lib.hid T
  have HX := Lib.hid hX
  have HD := Lib.hid hD
  have HSA := Lib.hid sA
  have HSB := Lib.hid sB
  have HIH := Lib.hid IH
  clear C T hX hD sA sB IH
  have hlen := hN
  simp only [List.length_append] at hlen
  have HL := Lib.hid (show m = a + A.length ∧ a = P.length ∧ b = m + B.length ∧ N = a + A.length + B.length + Q.length by omega)
  have HF := Lib.hid hf
  have h2 := Lib.hid (And.intro hA2 hB2)
  clear hN ha hb hm hlen hf hA2 hB2
  obtain ⟨k1, hk1⟩ : ∃ k1, k1 = m - a := ⟨_, rfl⟩
  obtain ⟨k2, hk2⟩ : ∃ k2, k2 = b - m := ⟨_, rfl⟩
  have q1 : (m : Int) - (a : Int) = (k1 : Int) := by have := HL.out; omega
  have q2 : (b : Int) - (m : Int) = (k2 : Int) := by have := HL.out; omega
  have b1 : ((k1 : Int) == 1) = false := by have := HL.out; have := h2.out; simp; omega
  have b2 : ((k2 : Int) == 1) = false := by have := HL.out; have := h2.out; simp; omega
  clear hk1 hk2
  obtain ⟨mid, hmid⟩ : ∃ mid, mid = (a + b) / 2 := ⟨_, rfl⟩
  obtain ⟨n, hn⟩ : ∃ n, n = mid + m := ⟨_, rfl⟩
  obtain ⟨p, hp⟩ : ∃ p, p = n - 1 := ⟨_, rfl⟩
  have hbd : a ≤ 1000 ∧ b ≤ 1000 ∧ m ≤ 1000 ∧ mid ≤ 1000 ∧ n ≤ 2000 ∧ p ≤ 2000 := by have := HL.out; have := h2.out; omega
  obtain ⟨ba, bb, bm, bmid, bn, bp⟩ := hbd
  have q3 : ((a : Int) + (b : Int)) / 2 = (mid : Int) := by omega
  have q4 : (mid : Int) + (m : Int) = (n : Int) := by omega
  have q5 : (n : Int) - 1 = (p : Int) := by have := HL.out; have := h2.out; omega
  have HM := Lib.hid hmid
  have HN := Lib.hid hn
  have HP := Lib.hid hp
  clear hmid hn hp
  go_enter Try.func92, Try.ntmps92
  by_cases hgt : mid < m
  · have hbt : decide ((m : Int) > (mid : Int)) = true := by simp; omega
    have hbt2 : (mid : Int) < (m : Int) := by omega
    obtain ⟨st, hst⟩ : ∃ st, st = n - b := ⟨_, rfl⟩
    have q6 : (n : Int) - (b : Int) = (st : Int) := by have := HM.out; have := HN.out; have := HL.out; omega
    have HST := Lib.hid hst
    clear hst
    go_wp2_with fail
    go_loopw [20, 21] (fun u t wr => ∃ (x y : Nat), u = .int .i64 x ∧ t = .int .i64 y ∧ x ≤ y ∧ Hid (Lft le A B a m b n x ∧ Rgt le A B a m mid p y) ∧ RowB wr R (P ++ A ++ B ++ Q) ∧ w0.grownBy wr (some R)) (fun u t _ => (intOf t).toNat - (intOf u).toNat)
    case atStart => exact ⟨st, mid, rfl, rfl, by have := HST.out; have := HM.out; have := HN.out; have := HL.out; omega, ⟨⟨by have := HST.out; have := HM.out; have := HN.out; have := HL.out; omega, by have := HST.out; have := HN.out; have := HL.out; omega, .inr (.inl (by have := HST.out; have := HM.out; have := HN.out; have := HL.out; omega))⟩, ⟨by omega, Nat.le_refl _, .inr (.inl rfl)⟩⟩, hB, hw⟩
    case round =>
      clear hB hw
      obtain ⟨st, r, rfl, rfl, hsr, hLR, hB, hw⟩ := hrel
      by_cases hlt : st < r
      · have hbs : decide ((st : Int) < (r : Int)) = true := by simp; omega
        have hbs2 : (st : Int) < (r : Int) := by omega
        obtain ⟨c, hc⟩ : ∃ c, c = (st + r) / 2 := ⟨_, rfl⟩
        have q7 : ((st : Int) + (r : Int)) / 2 = (c : Int) := by omega
        obtain ⟨d, hd⟩ : ∃ d, d = p - c := ⟨_, rfl⟩
        have hin : a ≤ c ∧ c < m ∧ m ≤ d ∧ d < b ∧ st ≤ c ∧ c < r ∧ d = p - c ∧ c ≤ p := by
          have h1 := hLR.out.1.1
          have h3 := hLR.out.1.2.1
          have h2 := hLR.out.2.1
          have h4 := hLR.out.2.2.1
          have := HM.out; have := HN.out; have := HP.out; have := HL.out
          omega
        have q8 : (p : Int) - (c : Int) = (d : Int) := by omega
        obtain ⟨x, hx⟩ : ∃ x, A[c - a]? = some x := ⟨_, List.getElem?_eq_getElem (by have := HL.out; omega)⟩
        obtain ⟨y, hy⟩ : ∃ y, B[d - m]? = some y := ⟨_, List.getElem?_eq_getElem (by have := HL.out; omega)⟩
        have cx : wr.cell? ⟨R, c, none⟩ = some (.int .i64 x) := hB.at_ (by
          have e : c = P.length + (c - a) := by have := HL.out; omega
          rw [e]; exact (runs_at P Q hx hy).1)
        have cy : wr.cell? ⟨R, d, none⟩ = some (.int .i64 y) := hB.at_ (by
          have e : d = P.length + A.length + (d - m) := by have := HL.out; omega
          rw [e]; exact (runs_at P Q hx hy).2)
        have lR := hB.lt
        have hcN : c < N ∧ d < N := by have := HL.out; omega
        obtain ⟨hcN, hdN⟩ := hcN
        have hxA : x ∈ A := List.mem_of_getElem? hx
        have hyB : y ∈ B := List.mem_of_getElem? hy
        have hag := Lib.hid (HX.out x hxA y hyB)
        have M : Hid (∀ z : Later wr, Hid (Calls Try.prog g (#[.int .i64 y, .int .i64 x] ++ cb) z.val fun e w' => e = .returned (.int .i64 (cf y x)) ∧ ∃ z2 : Later wr, w' = z2.val)) := fun z => later_call (HC.out.tells z.val (only_trans_below hw z.property) y x (HD.out y (by simp [hyB])) (HD.out x (by simp [hxA])))
        have hxl := later_cell (w := wr)
        have HXx := Lib.hid hx
        have HYy := Lib.hid hy
        have HIN := Lib.hid hin
        have hcb : c ≤ 1000 := by omega
        have HCc := Lib.hid (show c = (st + r) / 2 ∧ st < r from ⟨hc, hlt⟩)
        clear hx hy hxA hyB hc hd hin
        by_cases hlv : cf y x < 0
        · have hb6 : decide (cf y x < 0) = true := by simpa using hlv
          have NL := Lib.hid (hag.out.1 hlv)
          go_wp2_with fail
          refine wp_region_later (by kernel_rfl) (by kernel_rfl) ?_
          repeat (go_big_quiet_step ((first | (go_at_fn g; exact (M.out _).out))))
          refine wpQuiet_nil ?_
          rintro w2 ⟨⟨_, hb2⟩, rfl⟩
          have hB2 := hB.later hb2
          go_wp2_with fail
          go_roundw
          case rel =>
            have hin := HIN.out
            refine ⟨st, c, rfl, rfl, hin.2.2.2.2.1, ⟨hLR.out.1, ⟨by omega, by have := hLR.out.2.2.1; omega, .inr (.inr ⟨x, y, by omega, HXx.out, ?_, NL.out⟩)⟩⟩, hB2, only_trans_below hw hb2⟩
            rw [← hin.2.2.2.2.2.2.1]
            exact HYy.out
          case measure => have := HCc.out; simp [intOf]; omega
        
        · have hb6 : decide (cf y x < 0) = false := by simpa using hlv
          have NL : Hid (le x y) := by
            by_cases h : le x y
            · exact h
            · exact absurd (hag.out.2 h) hlv
          go_wp2_with fail
          refine wp_region_later (by kernel_rfl) (by kernel_rfl) ?_
          repeat (go_big_quiet_step ((first | (go_at_fn g; exact (M.out _).out))))
          refine wpQuiet_nil ?_
          rintro w2 ⟨⟨_, hb2⟩, rfl⟩
          have hB2 := hB.later hb2
          go_wp2_with fail
          go_roundw
          case rel =>
            have hin := HIN.out
            refine ⟨c + 1, r, by go_num, rfl, by omega, ⟨⟨by omega, by have := hLR.out.1.2.1; omega, .inr (.inr ⟨x, y, by omega, by rw [show c + 1 - 1 - a = c - a by omega]; exact HXx.out, ?_, NL.out⟩)⟩, hLR.out.2⟩, hB2, only_trans_below hw hb2⟩
            have := HP.out
            have := HN.out
            rw [show n - (c + 1) - m = d - m by omega]
            exact HYy.out
          case measure => have := HCc.out; simp [intOf]; omega
      · obtain rfl : st = r := by omega
        have hbs : decide ((st : Int) < (st : Int)) = false := by simp
        obtain ⟨s, hs⟩ : ∃ s, s = st - a := ⟨_, rfl⟩
        obtain ⟨e, he⟩ : ∃ e, e = n - st - m := ⟨_, rfl⟩
        have hX2 : Cross le A B s e := cross_of HT.out HSA.out HSB.out hLR.out.1 hLR.out.2 HL.out.1 HL.out.2.2.1 HN.out HP.out hs he
        have hgeo : st = a + s ∧ n - st = m + e ∧ mid = a + s + e ∧ s ≤ A.length ∧ e ≤ B.length ∧ st ≤ n := by
          have h1 := hLR.out.1.1
          have h2 := hLR.out.1.2.1
          have h3 := hLR.out.2.2.1
          have := HM.out; have := HN.out; have := HL.out
          exact ⟨by omega, by omega, by omega, hX2.1, hX2.2.1, by omega⟩
        obtain ⟨en, hen⟩ : ∃ en, en = n - st := ⟨_, rfl⟩
        have q7 : (n : Int) - (st : Int) = (en : Int) := by omega
        have hmb : a < mid ∧ mid < b := by have := HM.out; have := HL.out; have := h2.out; omega
        have eA : A = A.take s ++ A.drop s := (List.take_append_drop s A).symm
        have eB : B = B.take e ++ B.drop e := (List.take_append_drop e B).symm
        have l1 : (A.take s).length = s := by rw [List.length_take]; omega
        have l2 : (B.take e).length = e := by rw [List.length_take]; omega
        have HX2 := Lib.hid (And.intro hX2.2.2.1 hX2.2.2.2)
        clear hX2 hLR hs he hlt
        generalize A.take s = A1 at *
        generalize A.drop s = A2 at *
        generalize B.take e = B1 at *
        generalize B.drop e = B2 at *
        subst eA eB
        have HG := Lib.hid (show st = a + A1.length ∧ en = m + B1.length ∧ mid = a + A1.length + B1.length ∧ m = a + A1.length + A2.length ∧ b = m + B1.length + B2.length by have := HL.out; simp only [List.length_append] at this; omega)
        have hb9 : en ≤ 2000 ∧ st ≤ 1000 := by have := HG.out; omega
        obtain ⟨hb9, hb10⟩ := hb9
        have hmb' := Lib.hid hmb
        clear hgeo hen l1 l2 hmb
        rcases Nat.eq_zero_or_pos A1.length with a1 | a1 <;> rcases Nat.eq_zero_or_pos A2.length with a2 | a2 <;> rcases Nat.eq_zero_or_pos B1.length with b1 | b1 <;> rcases Nat.eq_zero_or_pos B2.length with b2 | b2
        · exfalso; have := hmb'.out; have := HG.out; have := h2.out; simp only [List.length_append] at this; have := HM.out; omega
        · exfalso; have := hmb'.out; have := HG.out; have := h2.out; simp only [List.length_append] at this; have := HM.out; omega
        · exfalso; have := hmb'.out; have := HG.out; have := h2.out; simp only [List.length_append] at this; have := HM.out; omega
        · exfalso; have := hmb'.out; have := HG.out; have := h2.out; simp only [List.length_append] at this; have := HM.out; omega
        · exfalso; have := hmb'.out; have := HG.out; have := h2.out; simp only [List.length_append] at this; have := HM.out; omega
        · exfalso; have := hmb'.out; have := HG.out; have := h2.out; simp only [List.length_append] at this; have := HM.out; omega
        · skip
          have f1 : decide ((st : Int) < (m : Int)) = true := by have := HG.out; simp; omega
          have f1i : (st : Int) < (m : Int) := by have := HG.out; omega
          have f2 : decide ((m : Int) < (en : Int)) = true := by have := HG.out; simp; omega
          have f2i : (m : Int) < (en : Int) := by have := HG.out; omega
          have f3 : decide ((a : Int) < (st : Int)) = false := by have := HG.out; simp; omega
          have f3i : ¬ (a : Int) < (st : Int) := by have := HG.out; omega
          have f5 : decide ((mid : Int) < (en : Int)) = true := by have := HG.out; simp; omega
          have f5i : (mid : Int) < (en : Int) := by have := HG.out; omega
          have f6 : decide ((en : Int) < (b : Int)) = false := by have := HG.out; simp; omega
          have f6i : ¬ (en : Int) < (b : Int) := by have := HG.out; omega
          have M1 := Lib.hid (rotate_any (w0 := w0) (P ++ A1) A2 B1 (B2 ++ Q) cap (.func (.func g) #[] cb) wr (by simpa using hB) hw st m en N (by rw [List.length_append]; have := HG.out; have := HL.out; omega) (by rw [List.length_append]; have := HG.out; have := HL.out; omega) (by rw [List.length_append]; have := HG.out; have := HL.out; omega)
            (by simp only [List.length_append]; have := HL.out; simp only [List.length_append] at this; omega) hl a2 b1)
          go_wp2_with fail
          refine M1.out.mono ?_
          rintro e w3 ⟨rfl, hB3, hw3⟩
          have hB4 : RowB w3 R (P ++ A1 ++ B1 ++ (A2 ++ B2 ++ Q)) := by simpa using hB3
          clear hB hw hB3 M1
          have e1 : A1 = [] := List.eq_nil_of_length_eq_zero a1
          obtain ⟨C1, hC1⟩ : ∃ C1, C1 = A1 ++ B1 := ⟨_, rfl⟩
          have HP1 : Hid (C1.Perm (A1 ++ B1)) := by show C1.Perm _; rw [hC1]
          have HS1 : Hid (C1.Pairwise le) := by show C1.Pairwise le; rw [hC1, e1]; exact (List.pairwise_append.1 HSB.out).1
          have hB5 : RowB w3 R (P ++ C1 ++ (A2 ++ B2 ++ Q)) := by rw [hC1]; simpa using hB4
          clear e1 hB4 hC1
          have e2 : B2 = [] := List.eq_nil_of_length_eq_zero b2
          obtain ⟨C2, hC2⟩ : ∃ C2, C2 = A2 ++ B2 := ⟨_, rfl⟩
          have HP2 : Hid (C2.Perm (A2 ++ B2)) := by show C2.Perm _; rw [hC2]
          have HS2 : Hid (C2.Pairwise le) := by show C2.Pairwise le; rw [hC2, e2]; rw [List.append_nil]; exact (List.pairwise_append.1 HSA.out).2.1
          have hB7 : RowB w3 R (P ++ (C1 ++ C2) ++ Q) := by rw [hC2]; simpa using hB5
          clear e2 hB5 hC2
          go_wp2_with fail
          go_end0
          have hmc := merge_cut HSA.out HSB.out HX2.out.1 HX2.out.2 HP1.out HP2.out HS1.out HS2.out
          exact ⟨rfl, C1 ++ C2, by simpa using hmc.2, hmc.1, by simpa using hB7, hw3⟩
        · exfalso; have := hmb'.out; have := HG.out; have := h2.out; simp only [List.length_append] at this; have := HM.out; omega
        · exfalso; have := hmb'.out; have := HG.out; have := h2.out; simp only [List.length_append] at this; have := HM.out; omega
        · exfalso; have := hmb'.out; have := HG.out; have := h2.out; simp only [List.length_append] at this; have := HM.out; omega
        · exfalso; have := hmb'.out; have := HG.out; have := h2.out; simp only [List.length_append] at this; have := HM.out; omega
        · exfalso; have := hmb'.out; have := HG.out; have := h2.out; simp only [List.length_append] at this; have := HM.out; omega
        · exfalso; have := hmb'.out; have := HG.out; have := h2.out; simp only [List.length_append] at this; have := HM.out; omega
        · skip
          have f1 : decide ((st : Int) < (m : Int)) = true := by have := HG.out; simp; omega
          have f1i : (st : Int) < (m : Int) := by have := HG.out; omega
          have f2 : decide ((m : Int) < (en : Int)) = false := by have := HG.out; simp; omega
          have f2i : ¬ (m : Int) < (en : Int) := by have := HG.out; omega
          have f3 : decide ((a : Int) < (st : Int)) = true := by have := HG.out; simp; omega
          have f3i : (a : Int) < (st : Int) := by have := HG.out; omega
          have f4 : decide ((st : Int) < (mid : Int)) = false := by have := HG.out; simp; omega
          have f4i : ¬ (st : Int) < (mid : Int) := by have := HG.out; omega
          have f5 : decide ((mid : Int) < (en : Int)) = true := by have := HG.out; simp; omega
          have f5i : (mid : Int) < (en : Int) := by have := HG.out; omega
          have f6 : decide ((en : Int) < (b : Int)) = true := by have := HG.out; simp; omega
          have f6i : (en : Int) < (b : Int) := by have := HG.out; omega
          have e0 : B1 = [] := List.eq_nil_of_length_eq_zero b1
          have hB4 : RowB wr R (P ++ A1 ++ B1 ++ (A2 ++ B2 ++ Q)) := by rw [e0] at hB ⊢; simpa using hB
          clear hB e0
          have e1 : B1 = [] := List.eq_nil_of_length_eq_zero b1
          obtain ⟨C1, hC1⟩ : ∃ C1, C1 = A1 ++ B1 := ⟨_, rfl⟩
          have HP1 : Hid (C1.Perm (A1 ++ B1)) := by show C1.Perm _; rw [hC1]
          have HS1 : Hid (C1.Pairwise le) := by show C1.Pairwise le; rw [hC1, e1]; rw [List.append_nil]; exact (List.pairwise_append.1 HSA.out).1
          have hB5 : RowB wr R (P ++ C1 ++ (A2 ++ B2 ++ Q)) := by rw [hC1]; simpa using hB4
          clear e1 hB4 hC1
          have lC : C1.length = A1.length + B1.length := by rw [HP1.out.length_eq, List.length_append]
          have LC := Lib.hid lC
          clear lC
          have M3 := Lib.hid (HIH.out (P ++ C1) A2 B2 Q cap wr (by have := HF.out; simp only [List.length_append] at this; omega) a2 b2 (fun x hx => HD.out x (by rcases List.mem_append.1 hx with h | h <;> simp [h])) (fun x hx y hy => HX.out x (by simp [hx]) y (by simp [hy])) (List.pairwise_append.1 HSA.out).2.1 (List.pairwise_append.1 HSB.out).2.1 (by simpa using hB5) hw mid en b N (by rw [List.length_append]; have := LC.out; have := HG.out; have := HL.out; omega) (by rw [List.length_append]; have := LC.out; have := HG.out; have := HL.out; omega) (by rw [List.length_append]; have := LC.out; have := HG.out; have := HL.out; omega)
            (by simp only [List.length_append]; have := LC.out; have := HL.out; simp only [List.length_append] at this; omega) hl)
          go_wp2_with fail
          refine M3.out.mono ?_
          rintro e w5 ⟨rfl, C2, hP2, hS2, hB6, hw5⟩
          have HP2 := Lib.hid hP2
          have HS2 := Lib.hid hS2
          have hB7 : RowB w5 R (P ++ (C1 ++ C2) ++ Q) := by simpa using hB6
          clear hB5 hw M3 hP2 hS2 hB6
          go_wp2_with fail
          go_end0
          have hmc := merge_cut HSA.out HSB.out HX2.out.1 HX2.out.2 HP1.out HP2.out HS1.out HS2.out
          exact ⟨rfl, C1 ++ C2, by simpa using hmc.2, hmc.1, by simpa using hB7, hw5⟩
        · skip
          have f1 : decide ((st : Int) < (m : Int)) = true := by have := HG.out; simp; omega
          have f1i : (st : Int) < (m : Int) := by have := HG.out; omega
          have f2 : decide ((m : Int) < (en : Int)) = true := by have := HG.out; simp; omega
          have f2i : (m : Int) < (en : Int) := by have := HG.out; omega
          have f3 : decide ((a : Int) < (st : Int)) = true := by have := HG.out; simp; omega
          have f3i : (a : Int) < (st : Int) := by have := HG.out; omega
          have f4 : decide ((st : Int) < (mid : Int)) = true := by have := HG.out; simp; omega
          have f4i : (st : Int) < (mid : Int) := by have := HG.out; omega
          have f5 : decide ((mid : Int) < (en : Int)) = true := by have := HG.out; simp; omega
          have f5i : (mid : Int) < (en : Int) := by have := HG.out; omega
          have f6 : decide ((en : Int) < (b : Int)) = false := by have := HG.out; simp; omega
          have f6i : ¬ (en : Int) < (b : Int) := by have := HG.out; omega
          have M1 := Lib.hid (rotate_any (w0 := w0) (P ++ A1) A2 B1 (B2 ++ Q) cap (.func (.func g) #[] cb) wr (by simpa using hB) hw st m en N (by rw [List.length_append]; have := HG.out; have := HL.out; omega) (by rw [List.length_append]; have := HG.out; have := HL.out; omega) (by rw [List.length_append]; have := HG.out; have := HL.out; omega)
            (by simp only [List.length_append]; have := HL.out; simp only [List.length_append] at this; omega) hl a2 b1)
          go_wp2_with fail
          refine M1.out.mono ?_
          rintro e w3 ⟨rfl, hB3, hw3⟩
          have hB4 : RowB w3 R (P ++ A1 ++ B1 ++ (A2 ++ B2 ++ Q)) := by simpa using hB3
          clear hB hw hB3 M1
          have M2 := Lib.hid (HIH.out P A1 B1 (A2 ++ B2 ++ Q) cap w3 (by have := HF.out; simp only [List.length_append] at this; omega) a1 b1 (fun x hx => HD.out x (by rcases List.mem_append.1 hx with h | h <;> simp [h])) (fun x hx y hy => HX.out x (by simp [hx]) y (by simp [hy])) (List.pairwise_append.1 HSA.out).1 (List.pairwise_append.1 HSB.out).1 hB4 hw3 a st mid N HL.out.2.1 (by have := HG.out; have := HL.out; omega) (by have := HG.out; have := HL.out; omega)
            (by simp only [List.length_append]; have := HL.out; simp only [List.length_append] at this; omega) hl)
          go_wp2_with fail
          refine M2.out.mono ?_
          rintro e w4 ⟨rfl, C1, hP1, hS1, hB5, hw4⟩
          have HP1 := Lib.hid hP1
          have HS1 := Lib.hid hS1
          clear hB4 hw3 M2 hP1 hS1
          have e2 : B2 = [] := List.eq_nil_of_length_eq_zero b2
          obtain ⟨C2, hC2⟩ : ∃ C2, C2 = A2 ++ B2 := ⟨_, rfl⟩
          have HP2 : Hid (C2.Perm (A2 ++ B2)) := by show C2.Perm _; rw [hC2]
          have HS2 : Hid (C2.Pairwise le) := by show C2.Pairwise le; rw [hC2, e2]; rw [List.append_nil]; exact (List.pairwise_append.1 HSA.out).2.1
          have hB7 : RowB w4 R (P ++ (C1 ++ C2) ++ Q) := by rw [hC2]; simpa using hB5
          clear e2 hB5 hC2
          go_wp2_with fail
          go_end0
          have hmc := merge_cut HSA.out HSB.out HX2.out.1 HX2.out.2 HP1.out HP2.out HS1.out HS2.out
          exact ⟨rfl, C1 ++ C2, by simpa using hmc.2, hmc.1, by simpa using hB7, hw4⟩
        · skip
          have f1 : decide ((st : Int) < (m : Int)) = true := by have := HG.out; simp; omega
          have f1i : (st : Int) < (m : Int) := by have := HG.out; omega
          have f2 : decide ((m : Int) < (en : Int)) = true := by have := HG.out; simp; omega
          have f2i : (m : Int) < (en : Int) := by have := HG.out; omega
          have f3 : decide ((a : Int) < (st : Int)) = true := by have := HG.out; simp; omega
          have f3i : (a : Int) < (st : Int) := by have := HG.out; omega
          have f4 : decide ((st : Int) < (mid : Int)) = true := by have := HG.out; simp; omega
          have f4i : (st : Int) < (mid : Int) := by have := HG.out; omega
          have f5 : decide ((mid : Int) < (en : Int)) = true := by have := HG.out; simp; omega
          have f5i : (mid : Int) < (en : Int) := by have := HG.out; omega
          have f6 : decide ((en : Int) < (b : Int)) = true := by have := HG.out; simp; omega
          have f6i : (en : Int) < (b : Int) := by have := HG.out; omega
          have M1 := Lib.hid (rotate_any (w0 := w0) (P ++ A1) A2 B1 (B2 ++ Q) cap (.func (.func g) #[] cb) wr (by simpa using hB) hw st m en N (by rw [List.length_append]; have := HG.out; have := HL.out; omega) (by rw [List.length_append]; have := HG.out; have := HL.out; omega) (by rw [List.length_append]; have := HG.out; have := HL.out; omega)
            (by simp only [List.length_append]; have := HL.out; simp only [List.length_append] at this; omega) hl a2 b1)
          go_wp2_with fail
          refine M1.out.mono ?_
          rintro e w3 ⟨rfl, hB3, hw3⟩
          have hB4 : RowB w3 R (P ++ A1 ++ B1 ++ (A2 ++ B2 ++ Q)) := by simpa using hB3
          clear hB hw hB3 M1
          have M2 := Lib.hid (HIH.out P A1 B1 (A2 ++ B2 ++ Q) cap w3 (by have := HF.out; simp only [List.length_append] at this; omega) a1 b1 (fun x hx => HD.out x (by rcases List.mem_append.1 hx with h | h <;> simp [h])) (fun x hx y hy => HX.out x (by simp [hx]) y (by simp [hy])) (List.pairwise_append.1 HSA.out).1 (List.pairwise_append.1 HSB.out).1 hB4 hw3 a st mid N HL.out.2.1 (by have := HG.out; have := HL.out; omega) (by have := HG.out; have := HL.out; omega)
            (by simp only [List.length_append]; have := HL.out; simp only [List.length_append] at this; omega) hl)
          go_wp2_with fail
          refine M2.out.mono ?_
          rintro e w4 ⟨rfl, C1, hP1, hS1, hB5, hw4⟩
          have HP1 := Lib.hid hP1
          have HS1 := Lib.hid hS1
          clear hB4 hw3 M2 hP1 hS1
          have lC : C1.length = A1.length + B1.length := by rw [HP1.out.length_eq, List.length_append]
          have LC := Lib.hid lC
          clear lC
          have M3 := Lib.hid (HIH.out (P ++ C1) A2 B2 Q cap w4 (by have := HF.out; simp only [List.length_append] at this; omega) a2 b2 (fun x hx => HD.out x (by rcases List.mem_append.1 hx with h | h <;> simp [h])) (fun x hx y hy => HX.out x (by simp [hx]) y (by simp [hy])) (List.pairwise_append.1 HSA.out).2.1 (List.pairwise_append.1 HSB.out).2.1 (by simpa using hB5) hw4 mid en b N (by rw [List.length_append]; have := LC.out; have := HG.out; have := HL.out; omega) (by rw [List.length_append]; have := LC.out; have := HG.out; have := HL.out; omega) (by rw [List.length_append]; have := LC.out; have := HG.out; have := HL.out; omega)
            (by simp only [List.length_append]; have := LC.out; have := HL.out; simp only [List.length_append] at this; omega) hl)
          go_wp2_with fail
          refine M3.out.mono ?_
          rintro e w5 ⟨rfl, C2, hP2, hS2, hB6, hw5⟩
          have HP2 := Lib.hid hP2
          have HS2 := Lib.hid hS2
          have hB7 : RowB w5 R (P ++ (C1 ++ C2) ++ Q) := by simpa using hB6
          clear hB5 hw4 M3 hP2 hS2 hB6
          go_wp2_with fail
          go_end0
          have hmc := merge_cut HSA.out HSB.out HX2.out.1 HX2.out.2 HP1.out HP2.out HS1.out HS2.out
          exact ⟨rfl, C1 ++ C2, by simpa using hmc.2, hmc.1, by simpa using hB7, hw5⟩
  · have hbt : decide ((m : Int) > (mid : Int)) = false := by simp; omega
    have hbt2 : ¬ (mid : Int) < (m : Int) := by omega
    go_wp2_with fail
    go_loopw [20, 21] (fun u t wr => ∃ (x y : Nat), u = .int .i64 x ∧ t = .int .i64 y ∧ x ≤ y ∧ Hid (Lft le A B a m b n x ∧ Rgt le A B a m mid p y) ∧ RowB wr R (P ++ A ++ B ++ Q) ∧ w0.grownBy wr (some R)) (fun u t _ => (intOf t).toNat - (intOf u).toNat)
    case atStart => exact ⟨a, m, rfl, rfl, by have := HL.out; omega, ⟨⟨Nat.le_refl _, by have := HM.out; have := HN.out; have := HL.out; omega, .inl rfl⟩, ⟨Nat.le_refl _, by omega, .inl rfl⟩⟩, hB, hw⟩
    case round =>
      clear hB hw
      obtain ⟨st, r, rfl, rfl, hsr, hLR, hB, hw⟩ := hrel
      by_cases hlt : st < r
      · have hbs : decide ((st : Int) < (r : Int)) = true := by simp; omega
        have hbs2 : (st : Int) < (r : Int) := by omega
        obtain ⟨c, hc⟩ : ∃ c, c = (st + r) / 2 := ⟨_, rfl⟩
        have q7 : ((st : Int) + (r : Int)) / 2 = (c : Int) := by omega
        obtain ⟨d, hd⟩ : ∃ d, d = p - c := ⟨_, rfl⟩
        have hin : a ≤ c ∧ c < m ∧ m ≤ d ∧ d < b ∧ st ≤ c ∧ c < r ∧ d = p - c ∧ c ≤ p := by
          have h1 := hLR.out.1.1
          have h3 := hLR.out.1.2.1
          have h2 := hLR.out.2.1
          have h4 := hLR.out.2.2.1
          have := HM.out; have := HN.out; have := HP.out; have := HL.out
          omega
        have q8 : (p : Int) - (c : Int) = (d : Int) := by omega
        obtain ⟨x, hx⟩ : ∃ x, A[c - a]? = some x := ⟨_, List.getElem?_eq_getElem (by have := HL.out; omega)⟩
        obtain ⟨y, hy⟩ : ∃ y, B[d - m]? = some y := ⟨_, List.getElem?_eq_getElem (by have := HL.out; omega)⟩
        have cx : wr.cell? ⟨R, c, none⟩ = some (.int .i64 x) := hB.at_ (by
          have e : c = P.length + (c - a) := by have := HL.out; omega
          rw [e]; exact (runs_at P Q hx hy).1)
        have cy : wr.cell? ⟨R, d, none⟩ = some (.int .i64 y) := hB.at_ (by
          have e : d = P.length + A.length + (d - m) := by have := HL.out; omega
          rw [e]; exact (runs_at P Q hx hy).2)
        have lR := hB.lt
        have hcN : c < N ∧ d < N := by have := HL.out; omega
        obtain ⟨hcN, hdN⟩ := hcN
        have hxA : x ∈ A := List.mem_of_getElem? hx
        have hyB : y ∈ B := List.mem_of_getElem? hy
        have hag := Lib.hid (HX.out x hxA y hyB)
        have M : Hid (∀ z : Later wr, Hid (Calls Try.prog g (#[.int .i64 y, .int .i64 x] ++ cb) z.val fun e w' => e = .returned (.int .i64 (cf y x)) ∧ ∃ z2 : Later wr, w' = z2.val)) := fun z => later_call (HC.out.tells z.val (only_trans_below hw z.property) y x (HD.out y (by simp [hyB])) (HD.out x (by simp [hxA])))
        have hxl := later_cell (w := wr)
        have HXx := Lib.hid hx
        have HYy := Lib.hid hy
        have HIN := Lib.hid hin
        have hcb : c ≤ 1000 := by omega
        have HCc := Lib.hid (show c = (st + r) / 2 ∧ st < r from ⟨hc, hlt⟩)
        clear hx hy hxA hyB hc hd hin
        by_cases hlv : cf y x < 0
        · have hb6 : decide (cf y x < 0) = true := by simpa using hlv
          have NL := Lib.hid (hag.out.1 hlv)
          go_wp2_with fail
          refine wp_region_later (by kernel_rfl) (by kernel_rfl) ?_
          repeat (go_big_quiet_step ((first | (go_at_fn g; exact (M.out _).out))))
          refine wpQuiet_nil ?_
          rintro w2 ⟨⟨_, hb2⟩, rfl⟩
          have hB2 := hB.later hb2
          go_wp2_with fail
          go_roundw
          case rel =>
            have hin := HIN.out
            refine ⟨st, c, rfl, rfl, hin.2.2.2.2.1, ⟨hLR.out.1, ⟨by omega, by have := hLR.out.2.2.1; omega, .inr (.inr ⟨x, y, by omega, HXx.out, ?_, NL.out⟩)⟩⟩, hB2, only_trans_below hw hb2⟩
            rw [← hin.2.2.2.2.2.2.1]
            exact HYy.out
          case measure => have := HCc.out; simp [intOf]; omega
        
        · have hb6 : decide (cf y x < 0) = false := by simpa using hlv
          have NL : Hid (le x y) := by
            by_cases h : le x y
            · exact h
            · exact absurd (hag.out.2 h) hlv
          go_wp2_with fail
          refine wp_region_later (by kernel_rfl) (by kernel_rfl) ?_
          repeat (go_big_quiet_step ((first | (go_at_fn g; exact (M.out _).out))))
          refine wpQuiet_nil ?_
          rintro w2 ⟨⟨_, hb2⟩, rfl⟩
          have hB2 := hB.later hb2
          go_wp2_with fail
          go_roundw
          case rel =>
            have hin := HIN.out
            refine ⟨c + 1, r, by go_num, rfl, by omega, ⟨⟨by omega, by have := hLR.out.1.2.1; omega, .inr (.inr ⟨x, y, by omega, by rw [show c + 1 - 1 - a = c - a by omega]; exact HXx.out, ?_, NL.out⟩)⟩, hLR.out.2⟩, hB2, only_trans_below hw hb2⟩
            have := HP.out
            have := HN.out
            rw [show n - (c + 1) - m = d - m by omega]
            exact HYy.out
          case measure => have := HCc.out; simp [intOf]; omega
      · obtain rfl : st = r := by omega
        have hbs : decide ((st : Int) < (st : Int)) = false := by simp
        obtain ⟨s, hs⟩ : ∃ s, s = st - a := ⟨_, rfl⟩
        obtain ⟨e, he⟩ : ∃ e, e = n - st - m := ⟨_, rfl⟩
        have hX2 : Cross le A B s e := cross_of HT.out HSA.out HSB.out hLR.out.1 hLR.out.2 HL.out.1 HL.out.2.2.1 HN.out HP.out hs he
        have hgeo : st = a + s ∧ n - st = m + e ∧ mid = a + s + e ∧ s ≤ A.length ∧ e ≤ B.length ∧ st ≤ n := by
          have h1 := hLR.out.1.1
          have h2 := hLR.out.1.2.1
          have h3 := hLR.out.2.2.1
          have := HM.out; have := HN.out; have := HL.out
          exact ⟨by omega, by omega, by omega, hX2.1, hX2.2.1, by omega⟩
        obtain ⟨en, hen⟩ : ∃ en, en = n - st := ⟨_, rfl⟩
        have q7 : (n : Int) - (st : Int) = (en : Int) := by omega
        have hmb : a < mid ∧ mid < b := by have := HM.out; have := HL.out; have := h2.out; omega
        have eA : A = A.take s ++ A.drop s := (List.take_append_drop s A).symm
        have eB : B = B.take e ++ B.drop e := (List.take_append_drop e B).symm
        have l1 : (A.take s).length = s := by rw [List.length_take]; omega
        have l2 : (B.take e).length = e := by rw [List.length_take]; omega
        have HX2 := Lib.hid (And.intro hX2.2.2.1 hX2.2.2.2)
        clear hX2 hLR hs he hlt
        generalize A.take s = A1 at *
        generalize A.drop s = A2 at *
        generalize B.take e = B1 at *
        generalize B.drop e = B2 at *
        subst eA eB
        have HG := Lib.hid (show st = a + A1.length ∧ en = m + B1.length ∧ mid = a + A1.length + B1.length ∧ m = a + A1.length + A2.length ∧ b = m + B1.length + B2.length by have := HL.out; simp only [List.length_append] at this; omega)
        have hb9 : en ≤ 2000 ∧ st ≤ 1000 := by have := HG.out; omega
        obtain ⟨hb9, hb10⟩ := hb9
        have hmb' := Lib.hid hmb
        clear hgeo hen l1 l2 hmb
        rcases Nat.eq_zero_or_pos A1.length with a1 | a1 <;> rcases Nat.eq_zero_or_pos A2.length with a2 | a2 <;> rcases Nat.eq_zero_or_pos B1.length with b1 | b1 <;> rcases Nat.eq_zero_or_pos B2.length with b2 | b2
        · exfalso; have := hmb'.out; have := HG.out; have := h2.out; simp only [List.length_append] at this; have := HM.out; omega
        · exfalso; have := hmb'.out; have := HG.out; have := h2.out; simp only [List.length_append] at this; have := HM.out; omega
        · exfalso; have := hmb'.out; have := HG.out; have := h2.out; simp only [List.length_append] at this; have := HM.out; omega
        · exfalso; have := hmb'.out; have := HG.out; have := h2.out; simp only [List.length_append] at this; have := HM.out; omega
        · exfalso; have := hmb'.out; have := HG.out; have := h2.out; simp only [List.length_append] at this; have := HM.out; omega
        · exfalso; have := hmb'.out; have := HG.out; have := h2.out; simp only [List.length_append] at this; have := HM.out; omega
        · skip
          have f1 : decide ((st : Int) < (m : Int)) = true := by have := HG.out; simp; omega
          have f1i : (st : Int) < (m : Int) := by have := HG.out; omega
          have f2 : decide ((m : Int) < (en : Int)) = true := by have := HG.out; simp; omega
          have f2i : (m : Int) < (en : Int) := by have := HG.out; omega
          have f3 : decide ((a : Int) < (st : Int)) = false := by have := HG.out; simp; omega
          have f3i : ¬ (a : Int) < (st : Int) := by have := HG.out; omega
          have f5 : decide ((mid : Int) < (en : Int)) = true := by have := HG.out; simp; omega
          have f5i : (mid : Int) < (en : Int) := by have := HG.out; omega
          have f6 : decide ((en : Int) < (b : Int)) = false := by have := HG.out; simp; omega
          have f6i : ¬ (en : Int) < (b : Int) := by have := HG.out; omega
          have M1 := Lib.hid (rotate_any (w0 := w0) (P ++ A1) A2 B1 (B2 ++ Q) cap (.func (.func g) #[] cb) wr (by simpa using hB) hw st m en N (by rw [List.length_append]; have := HG.out; have := HL.out; omega) (by rw [List.length_append]; have := HG.out; have := HL.out; omega) (by rw [List.length_append]; have := HG.out; have := HL.out; omega)
            (by simp only [List.length_append]; have := HL.out; simp only [List.length_append] at this; omega) hl a2 b1)
          go_wp2_with fail
          refine M1.out.mono ?_
          rintro e w3 ⟨rfl, hB3, hw3⟩
          have hB4 : RowB w3 R (P ++ A1 ++ B1 ++ (A2 ++ B2 ++ Q)) := by simpa using hB3
          clear hB hw hB3 M1
          have e1 : A1 = [] := List.eq_nil_of_length_eq_zero a1
          obtain ⟨C1, hC1⟩ : ∃ C1, C1 = A1 ++ B1 := ⟨_, rfl⟩
          have HP1 : Hid (C1.Perm (A1 ++ B1)) := by show C1.Perm _; rw [hC1]
          have HS1 : Hid (C1.Pairwise le) := by show C1.Pairwise le; rw [hC1, e1]; exact (List.pairwise_append.1 HSB.out).1
          have hB5 : RowB w3 R (P ++ C1 ++ (A2 ++ B2 ++ Q)) := by rw [hC1]; simpa using hB4
          clear e1 hB4 hC1
          have e2 : B2 = [] := List.eq_nil_of_length_eq_zero b2
          obtain ⟨C2, hC2⟩ : ∃ C2, C2 = A2 ++ B2 := ⟨_, rfl⟩
          have HP2 : Hid (C2.Perm (A2 ++ B2)) := by show C2.Perm _; rw [hC2]
          have HS2 : Hid (C2.Pairwise le) := by show C2.Pairwise le; rw [hC2, e2]; rw [List.append_nil]; exact (List.pairwise_append.1 HSA.out).2.1
          have hB7 : RowB w3 R (P ++ (C1 ++ C2) ++ Q) := by rw [hC2]; simpa using hB5
          clear e2 hB5 hC2
          go_wp2_with fail
          go_end0
          have hmc := merge_cut HSA.out HSB.out HX2.out.1 HX2.out.2 HP1.out HP2.out HS1.out HS2.out
          exact ⟨rfl, C1 ++ C2, by simpa using hmc.2, hmc.1, by simpa using hB7, hw3⟩
        · skip
          have f1 : decide ((st : Int) < (m : Int)) = true := by have := HG.out; simp; omega
          have f1i : (st : Int) < (m : Int) := by have := HG.out; omega
          have f2 : decide ((m : Int) < (en : Int)) = true := by have := HG.out; simp; omega
          have f2i : (m : Int) < (en : Int) := by have := HG.out; omega
          have f3 : decide ((a : Int) < (st : Int)) = false := by have := HG.out; simp; omega
          have f3i : ¬ (a : Int) < (st : Int) := by have := HG.out; omega
          have f5 : decide ((mid : Int) < (en : Int)) = true := by have := HG.out; simp; omega
          have f5i : (mid : Int) < (en : Int) := by have := HG.out; omega
          have f6 : decide ((en : Int) < (b : Int)) = true := by have := HG.out; simp; omega
          have f6i : (en : Int) < (b : Int) := by have := HG.out; omega
          have M1 := Lib.hid (rotate_any (w0 := w0) (P ++ A1) A2 B1 (B2 ++ Q) cap (.func (.func g) #[] cb) wr (by simpa using hB) hw st m en N (by rw [List.length_append]; have := HG.out; have := HL.out; omega) (by rw [List.length_append]; have := HG.out; have := HL.out; omega) (by rw [List.length_append]; have := HG.out; have := HL.out; omega)
            (by simp only [List.length_append]; have := HL.out; simp only [List.length_append] at this; omega) hl a2 b1)
          go_wp2_with fail
          refine M1.out.mono ?_
          rintro e w3 ⟨rfl, hB3, hw3⟩
          have hB4 : RowB w3 R (P ++ A1 ++ B1 ++ (A2 ++ B2 ++ Q)) := by simpa using hB3
          clear hB hw hB3 M1
          have e1 : A1 = [] := List.eq_nil_of_length_eq_zero a1
          obtain ⟨C1, hC1⟩ : ∃ C1, C1 = A1 ++ B1 := ⟨_, rfl⟩
          have HP1 : Hid (C1.Perm (A1 ++ B1)) := by show C1.Perm _; rw [hC1]
          have HS1 : Hid (C1.Pairwise le) := by show C1.Pairwise le; rw [hC1, e1]; exact (List.pairwise_append.1 HSB.out).1
          have hB5 : RowB w3 R (P ++ C1 ++ (A2 ++ B2 ++ Q)) := by rw [hC1]; simpa using hB4
          clear e1 hB4 hC1
          have lC : C1.length = A1.length + B1.length := by rw [HP1.out.length_eq, List.length_append]
          have LC := Lib.hid lC
          clear lC
          have M3 := Lib.hid (HIH.out (P ++ C1) A2 B2 Q cap w3 (by have := HF.out; simp only [List.length_append] at this; omega) a2 b2 (fun x hx => HD.out x (by rcases List.mem_append.1 hx with h | h <;> simp [h])) (fun x hx y hy => HX.out x (by simp [hx]) y (by simp [hy])) (List.pairwise_append.1 HSA.out).2.1 (List.pairwise_append.1 HSB.out).2.1 (by simpa using hB5) hw3 mid en b N (by rw [List.length_append]; have := LC.out; have := HG.out; have := HL.out; omega) (by rw [List.length_append]; have := LC.out; have := HG.out; have := HL.out; omega) (by rw [List.length_append]; have := LC.out; have := HG.out; have := HL.out; omega)
            (by simp only [List.length_append]; have := LC.out; have := HL.out; simp only [List.length_append] at this; omega) hl)
          go_wp2_with fail
          refine M3.out.mono ?_
          rintro e w5 ⟨rfl, C2, hP2, hS2, hB6, hw5⟩
          have HP2 := Lib.hid hP2
          have HS2 := Lib.hid hS2
          have hB7 : RowB w5 R (P ++ (C1 ++ C2) ++ Q) := by simpa using hB6
          clear hB5 hw3 M3 hP2 hS2 hB6
          go_wp2_with fail
          go_end0
          have hmc := merge_cut HSA.out HSB.out HX2.out.1 HX2.out.2 HP1.out HP2.out HS1.out HS2.out
          exact ⟨rfl, C1 ++ C2, by simpa using hmc.2, hmc.1, by simpa using hB7, hw5⟩
        · exfalso; have := hmb'.out; have := HG.out; have := h2.out; simp only [List.length_append] at this; have := HM.out; omega
        · skip
          have f1 : decide ((st : Int) < (m : Int)) = false := by have := HG.out; simp; omega
          have f1i : ¬ (st : Int) < (m : Int) := by have := HG.out; omega
          have f3 : decide ((a : Int) < (st : Int)) = true := by have := HG.out; simp; omega
          have f3i : (a : Int) < (st : Int) := by have := HG.out; omega
          have f4 : decide ((st : Int) < (mid : Int)) = false := by have := HG.out; simp; omega
          have f4i : ¬ (st : Int) < (mid : Int) := by have := HG.out; omega
          have f5 : decide ((mid : Int) < (en : Int)) = false := by have := HG.out; simp; omega
          have f5i : ¬ (mid : Int) < (en : Int) := by have := HG.out; omega
          have e0 : A2 = [] := List.eq_nil_of_length_eq_zero a2
          have hB4 : RowB wr R (P ++ A1 ++ B1 ++ (A2 ++ B2 ++ Q)) := by rw [e0] at hB ⊢; simpa using hB
          clear hB e0
          have e1 : B1 = [] := List.eq_nil_of_length_eq_zero b1
          obtain ⟨C1, hC1⟩ : ∃ C1, C1 = A1 ++ B1 := ⟨_, rfl⟩
          have HP1 : Hid (C1.Perm (A1 ++ B1)) := by show C1.Perm _; rw [hC1]
          have HS1 : Hid (C1.Pairwise le) := by show C1.Pairwise le; rw [hC1, e1]; rw [List.append_nil]; exact (List.pairwise_append.1 HSA.out).1
          have hB5 : RowB wr R (P ++ C1 ++ (A2 ++ B2 ++ Q)) := by rw [hC1]; simpa using hB4
          clear e1 hB4 hC1
          have e2 : A2 = [] := List.eq_nil_of_length_eq_zero a2
          obtain ⟨C2, hC2⟩ : ∃ C2, C2 = A2 ++ B2 := ⟨_, rfl⟩
          have HP2 : Hid (C2.Perm (A2 ++ B2)) := by show C2.Perm _; rw [hC2]
          have HS2 : Hid (C2.Pairwise le) := by show C2.Pairwise le; rw [hC2, e2]; exact (List.pairwise_append.1 HSB.out).2.1
          have hB7 : RowB wr R (P ++ (C1 ++ C2) ++ Q) := by rw [hC2]; simpa using hB5
          clear e2 hB5 hC2
          go_wp2_with fail
          go_end0
          have hmc := merge_cut HSA.out HSB.out HX2.out.1 HX2.out.2 HP1.out HP2.out HS1.out HS2.out
          exact ⟨rfl, C1 ++ C2, by simpa using hmc.2, hmc.1, by simpa using hB7, hw⟩
        · exfalso; have := hmb'.out; have := HG.out; have := h2.out; simp only [List.length_append] at this; have := HM.out; omega
        · skip
          have f1 : decide ((st : Int) < (m : Int)) = false := by have := HG.out; simp; omega
          have f1i : ¬ (st : Int) < (m : Int) := by have := HG.out; omega
          have f3 : decide ((a : Int) < (st : Int)) = true := by have := HG.out; simp; omega
          have f3i : (a : Int) < (st : Int) := by have := HG.out; omega
          have f4 : decide ((st : Int) < (mid : Int)) = true := by have := HG.out; simp; omega
          have f4i : (st : Int) < (mid : Int) := by have := HG.out; omega
          have f5 : decide ((mid : Int) < (en : Int)) = false := by have := HG.out; simp; omega
          have f5i : ¬ (mid : Int) < (en : Int) := by have := HG.out; omega
          have e0 : A2 = [] := List.eq_nil_of_length_eq_zero a2
          have hB4 : RowB wr R (P ++ A1 ++ B1 ++ (A2 ++ B2 ++ Q)) := by rw [e0] at hB ⊢; simpa using hB
          clear hB e0
          have M2 := Lib.hid (HIH.out P A1 B1 (A2 ++ B2 ++ Q) cap wr (by have := HF.out; simp only [List.length_append] at this; omega) a1 b1 (fun x hx => HD.out x (by rcases List.mem_append.1 hx with h | h <;> simp [h])) (fun x hx y hy => HX.out x (by simp [hx]) y (by simp [hy])) (List.pairwise_append.1 HSA.out).1 (List.pairwise_append.1 HSB.out).1 hB4 hw a st mid N HL.out.2.1 (by have := HG.out; have := HL.out; omega) (by have := HG.out; have := HL.out; omega)
            (by simp only [List.length_append]; have := HL.out; simp only [List.length_append] at this; omega) hl)
          go_wp2_with fail
          refine M2.out.mono ?_
          rintro e w4 ⟨rfl, C1, hP1, hS1, hB5, hw4⟩
          have HP1 := Lib.hid hP1
          have HS1 := Lib.hid hS1
          clear hB4 hw M2 hP1 hS1
          have e2 : A2 = [] := List.eq_nil_of_length_eq_zero a2
          obtain ⟨C2, hC2⟩ : ∃ C2, C2 = A2 ++ B2 := ⟨_, rfl⟩
          have HP2 : Hid (C2.Perm (A2 ++ B2)) := by show C2.Perm _; rw [hC2]
          have HS2 : Hid (C2.Pairwise le) := by show C2.Pairwise le; rw [hC2, e2]; exact (List.pairwise_append.1 HSB.out).2.1
          have hB7 : RowB w4 R (P ++ (C1 ++ C2) ++ Q) := by rw [hC2]; simpa using hB5
          clear e2 hB5 hC2
          go_wp2_with fail
          go_end0
          have hmc := merge_cut HSA.out HSB.out HX2.out.1 HX2.out.2 HP1.out HP2.out HS1.out HS2.out
          exact ⟨rfl, C1 ++ C2, by simpa using hmc.2, hmc.1, by simpa using hB7, hw4⟩
        · exfalso; have := hmb'.out; have := HG.out; have := h2.out; simp only [List.length_append] at this; have := HM.out; omega
        · exfalso; have := hmb'.out; have := HG.out; have := h2.out; simp only [List.length_append] at this; have := HM.out; omega
        · exfalso; have := hmb'.out; have := HG.out; have := h2.out; simp only [List.length_append] at this; have := HM.out; omega
        · skip
          have f1 : decide ((st : Int) < (m : Int)) = true := by have := HG.out; simp; omega
          have f1i : (st : Int) < (m : Int) := by have := HG.out; omega
          have f2 : decide ((m : Int) < (en : Int)) = true := by have := HG.out; simp; omega
          have f2i : (m : Int) < (en : Int) := by have := HG.out; omega
          have f3 : decide ((a : Int) < (st : Int)) = true := by have := HG.out; simp; omega
          have f3i : (a : Int) < (st : Int) := by have := HG.out; omega
          have f4 : decide ((st : Int) < (mid : Int)) = true := by have := HG.out; simp; omega
          have f4i : (st : Int) < (mid : Int) := by have := HG.out; omega
          have f5 : decide ((mid : Int) < (en : Int)) = true := by have := HG.out; simp; omega
          have f5i : (mid : Int) < (en : Int) := by have := HG.out; omega
          have f6 : decide ((en : Int) < (b : Int)) = true := by have := HG.out; simp; omega
          have f6i : (en : Int) < (b : Int) := by have := HG.out; omega
          have M1 := Lib.hid (rotate_any (w0 := w0) (P ++ A1) A2 B1 (B2 ++ Q) cap (.func (.func g) #[] cb) wr (by simpa using hB) hw st m en N (by rw [List.length_append]; have := HG.out; have := HL.out; omega) (by rw [List.length_append]; have := HG.out; have := HL.out; omega) (by rw [List.length_append]; have := HG.out; have := HL.out; omega)
            (by simp only [List.length_append]; have := HL.out; simp only [List.length_append] at this; omega) hl a2 b1)
          go_wp2_with fail
          refine M1.out.mono ?_
          rintro e w3 ⟨rfl, hB3, hw3⟩
          have hB4 : RowB w3 R (P ++ A1 ++ B1 ++ (A2 ++ B2 ++ Q)) := by simpa using hB3
          clear hB hw hB3 M1
          have M2 := Lib.hid (HIH.out P A1 B1 (A2 ++ B2 ++ Q) cap w3 (by have := HF.out; simp only [List.length_append] at this; omega) a1 b1 (fun x hx => HD.out x (by rcases List.mem_append.1 hx with h | h <;> simp [h])) (fun x hx y hy => HX.out x (by simp [hx]) y (by simp [hy])) (List.pairwise_append.1 HSA.out).1 (List.pairwise_append.1 HSB.out).1 hB4 hw3 a st mid N HL.out.2.1 (by have := HG.out; have := HL.out; omega) (by have := HG.out; have := HL.out; omega)
            (by simp only [List.length_append]; have := HL.out; simp only [List.length_append] at this; omega) hl)
          go_wp2_with fail
          refine M2.out.mono ?_
          rintro e w4 ⟨rfl, C1, hP1, hS1, hB5, hw4⟩
          have HP1 := Lib.hid hP1
          have HS1 := Lib.hid hS1
          clear hB4 hw3 M2 hP1 hS1
          have lC : C1.length = A1.length + B1.length := by rw [HP1.out.length_eq, List.length_append]
          have LC := Lib.hid lC
          clear lC
          have M3 := Lib.hid (HIH.out (P ++ C1) A2 B2 Q cap w4 (by have := HF.out; simp only [List.length_append] at this; omega) a2 b2 (fun x hx => HD.out x (by rcases List.mem_append.1 hx with h | h <;> simp [h])) (fun x hx y hy => HX.out x (by simp [hx]) y (by simp [hy])) (List.pairwise_append.1 HSA.out).2.1 (List.pairwise_append.1 HSB.out).2.1 (by simpa using hB5) hw4 mid en b N (by rw [List.length_append]; have := LC.out; have := HG.out; have := HL.out; omega) (by rw [List.length_append]; have := LC.out; have := HG.out; have := HL.out; omega) (by rw [List.length_append]; have := LC.out; have := HG.out; have := HL.out; omega)
            (by simp only [List.length_append]; have := LC.out; have := HL.out; simp only [List.length_append] at this; omega) hl)
          go_wp2_with fail
          refine M3.out.mono ?_
          rintro e w5 ⟨rfl, C2, hP2, hS2, hB6, hw5⟩
          have HP2 := Lib.hid hP2
          have HS2 := Lib.hid hS2
          have hB7 : RowB w5 R (P ++ (C1 ++ C2) ++ Q) := by simpa using hB6
          clear hB5 hw4 M3 hP2 hS2 hB6
          go_wp2_with fail
          go_end0
          have hmc := merge_cut HSA.out HSB.out HX2.out.1 HX2.out.2 HP1.out HP2.out HS1.out HS2.out
          exact ⟨rfl, C1 ++ C2, by simpa using hmc.2, hmc.1, by simpa using hB7, hw5⟩
end Go.Proofs.Ytnfcigbiebbjdaa
