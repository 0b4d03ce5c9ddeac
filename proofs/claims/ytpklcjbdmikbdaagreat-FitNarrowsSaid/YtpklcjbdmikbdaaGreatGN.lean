/-
  The seat's texts NarP NarQ Wors MovW NarC NarW in one: the contracts of the functions that the law reaches, and the plain laws that they rest on.
  Conditions: as each theorem states them.
-/
import Derived.Test.YtpklcjbdmikbdaaGreatGD
import Derived.Test.YtpklcjbdmikbdaaGreatGP
import Derived.Test.YtpklcjbdmikbdaaGreatGI
import Derived.Test.YtpklcjbdmikbdaaGreatGL
import Derived.Test.YtpklcjbdmikbdaaGreatGH
import Derived.Test.YtpklcjbdmikbdaaGreatGE
import Derived.Lib.SliceRun
import Derived.Test.YtpklcjbdmikbdaaGreatGX
namespace Go.Proofs.YtpklcjbdmikbdaaGreat

/-- A stack one of whose parts is a little narrower. -/
def slimL (l : List Prt) (i : Nat) : List Prt := l.modify i fun p => ⟨p.lo, p.hi - 1, p.neg⟩
theorem slimL_len (l : List Prt) (i : Nat) : (slimL l i).length = l.length := by simp [slimL]
theorem slimL_at {l : List Prt} {i : Nat} {p : Prt} (h : l[i]? = some p) : (slimL l i)[i]? = some ⟨p.lo, p.hi - 1, p.neg⟩ := by simp [slimL, h]
theorem slimL_ne {l : List Prt} {i k : Nat} (h : k ≠ i) : (slimL l i)[k]? = l[k]? := by
  unfold slimL
  rw [List.getElem?_modify]
  simp [Ne.symm h]
theorem slimL_ok {l : List Prt} {i : Nat} {p : Prt} (hl : okPs l) (h : l[i]? = some p) (hp : p.lo ≠ p.hi) : okPs (slimL l i) := by
  intro q hq
  obtain ⟨k, hk⟩ := List.getElem?_of_mem hq
  by_cases e : k = i
  · subst e
    rw [slimL_at h] at hk
    cases hk
    have := hl p (List.mem_of_getElem? h)
    unfold okP at this ⊢
    simp only
    omega
  · rw [slimL_ne e] at hk
    exact hl q (List.mem_of_getElem? hk)
/-- The choice among the first k parts: its number, and how many of how many choices fit. -/
def narS (lo hi : Int) (l : List Prt) : Nat → Int × Nat × Nat
  | 0 => (-1, 0, 0)
  | k + 1 =>
    match l[k]? with
    | none => narS lo hi l k
    | some p =>
      if p.lo = p.hi then narS lo hi l k
      else if (narS lo hi l k).1 < 0 ∨ (narS lo hi l k).2.1 * (gapsL (slimL l k)).length < goodN lo hi (gapsL (slimL l k)) * (narS lo hi l k).2.2 then ((k : Int), goodN lo hi (gapsL (slimL l k)), (gapsL (slimL l k)).length)
      else narS lo hi l k
theorem narS_skip {lo hi : Int} {l : List Prt} {k : Nat} {p : Prt} (h : l[k]? = some p) (hp : p.lo = p.hi) : narS lo hi l (k + 1) = narS lo hi l k := by
  simp only [narS, h, if_pos hp]
theorem narS_take {lo hi : Int} {l : List Prt} {k : Nat} {p : Prt} (h : l[k]? = some p) (hp : p.lo ≠ p.hi) (hc : (narS lo hi l k).1 < 0 ∨ (narS lo hi l k).2.1 * (gapsL (slimL l k)).length < goodN lo hi (gapsL (slimL l k)) * (narS lo hi l k).2.2) :
    narS lo hi l (k + 1) = ((k : Int), goodN lo hi (gapsL (slimL l k)), (gapsL (slimL l k)).length) := by
  simp only [narS, h, if_neg hp]
  rw [if_pos hc]
theorem narS_keep {lo hi : Int} {l : List Prt} {k : Nat} {p : Prt} (h : l[k]? = some p) (hp : p.lo ≠ p.hi) (hc : ¬ ((narS lo hi l k).1 < 0 ∨ (narS lo hi l k).2.1 * (gapsL (slimL l k)).length < goodN lo hi (gapsL (slimL l k)) * (narS lo hi l k).2.2)) :
    narS lo hi l (k + 1) = narS lo hi l k := by
  simp only [narS, h, if_neg hp]
  rw [if_neg hc]
/-- What the choice is: -1, or a part's number with its counts. -/
theorem narS_facts {lo hi : Int} {l : List Prt} (hl : okPs l) : ∀ k, (narS lo hi l k).1 = -1 ∨ (∃ i p, l[i]? = some p ∧ p.lo ≠ p.hi ∧ i < k ∧ (narS lo hi l k).1 = (i : Int) ∧ (narS lo hi l k).2.1 = goodN lo hi (gapsL (slimL l i)) ∧ (narS lo hi l k).2.2 = (gapsL (slimL l i)).length)
  | 0 => .inl rfl
  | k + 1 => by
    have ih := narS_facts (lo := lo) (hi := hi) hl k
    have up : ∀ {x : Int × Nat × Nat}, x = narS lo hi l k → x.1 = -1 ∨ (∃ i p, l[i]? = some p ∧ p.lo ≠ p.hi ∧ i < k + 1 ∧ x.1 = (i : Int) ∧ x.2.1 = goodN lo hi (gapsL (slimL l i)) ∧ x.2.2 = (gapsL (slimL l i)).length) := by
      rintro x rfl
      rcases ih with h | ⟨i, p, h1, h2, h3, h4⟩
      · exact .inl h
      · exact .inr ⟨i, p, h1, h2, by omega, h4⟩
    cases h : l[k]? with
    | none => exact up (by simp only [narS, h])
    | some p =>
      by_cases hp : p.lo = p.hi
      · exact up (narS_skip h hp)
      · by_cases hc : (narS lo hi l k).1 < 0 ∨ (narS lo hi l k).2.1 * (gapsL (slimL l k)).length < goodN lo hi (gapsL (slimL l k)) * (narS lo hi l k).2.2
        · rw [narS_take h hp hc]
          exact .inr ⟨k, p, h, hp, by omega, rfl, rfl, rfl⟩
        · exact up (narS_keep h hp hc)
theorem cmpN_pos {a b : Nat} : 0 < cmpN a b ↔ b < a := by
  unfold cmpN
  split
  · constructor <;> intro h <;> omega
  · split
    · constructor <;> intro h <;> omega
    · constructor <;> intro h <;> omega
end Go.Proofs.YtpklcjbdmikbdaaGreat
namespace Go.Proofs.YtpklcjbdmikbdaaGreat

theorem slim_wid : ∀ (l : List Prt) (k : Nat), widN (slimL l k) ≤ widN l
  | [], _ => by simp [slimL]
  | p :: l, 0 => by
    show (⟨p.lo, p.hi - 1, p.neg⟩ : Prt).wd * widN l ≤ p.wd * widN l
    refine Nat.mul_le_mul_right _ ?_
    unfold Prt.wd
    simp only
    omega
  | p :: l, k + 1 => Nat.mul_le_mul_left _ (slim_wid l k)
theorem slim_right {l : List Prt} {k : Nat} {p : Prt} (h : rightB l = true) (hk : l[k]? = some p) (hp : p.lo ≠ p.hi) : rightB (slimL l k) = true := by
  obtain ⟨h1, h2, h3⟩ := rightB_iff.1 h
  exact rightB_iff.2 ⟨slimL_ok h1 hk hp, by rw [slimL_len]; exact h2, by rw [slimL_len]; exact h3⟩
theorem slim_len {l : List Prt} {k : Nat} {p : Prt} {m : Nat} (h : rightB l = true) (hk : l[k]? = some p) (hp : p.lo ≠ p.hi) (hm : widN l ≤ m) : 0 < (gapsL (slimL l k)).length ∧ (gapsL (slimL l k)).length ≤ m := by
  rw [wid_all]
  exact ⟨widN_pos (rightB_iff.1 (slim_right h hk hp)).1, Nat.le_trans (slim_wid l k) hm⟩
theorem frac_ok {a b m : Nat} (hb : 0 < b) (hab : a ≤ b) (hm : b ≤ m) (hm2 : m ≤ 32768) : FracOk (lowN a b) (lowD a b) ∧ lowN a b ≤ m ∧ lowD a b ≤ m := by
  have hg : 0 < a.gcd b := Nat.gcd_pos_of_pos_right _ hb
  have h1 : lowN a b ≤ a := Nat.div_le_self _ _
  have h2 : lowD a b ≤ b := Nat.div_le_self _ _
  have h3 : 0 < lowD a b := Nat.div_pos (Nat.le_of_dvd hb (Nat.gcd_dvd_right a b)) hg
  refine ⟨⟨h3, by omega, by omega, ?_⟩, by omega, by omega⟩
  unfold lowN lowD
  exact Nat.coprime_div_gcd_div_gcd hg
theorem nar_cmp {a b c d : Nat} (hb : 0 < b) (hd : 0 < d) : (0 < cmpN (lowN a b * lowD c d) (lowN c d * lowD a b)) ↔ c * b < a * d := by
  rw [cmpN_pos]
  have := low_cmp (a := a) (b := b) (c := c) (d := d) hb hd
  omega
/-- The choice among the first k parts; none if the gap is sure to fit. -/
def stN (sure : Bool) (lo hi : Int) (l : List Prt) (k : Nat) : Int × Nat × Nat := if sure then (-1, 0, 0) else narS lo hi l k
theorem stN_neg {sure : Bool} {lo hi : Int} {l : List Prt} (hl : okPs l) (k : Nat) : (stN sure lo hi l k).1 = -1 ∨ ((0 ≤ (stN sure lo hi l k).1 ∧ (stN sure lo hi l k).1 < (k : Int)) ∧ sure = false ∧ ∃ i p, l[i]? = some p ∧ p.lo ≠ p.hi ∧ (stN sure lo hi l k).2.1 = goodN lo hi (gapsL (slimL l i)) ∧ (stN sure lo hi l k).2.2 = (gapsL (slimL l i)).length) := by
  cases sure with
  | true => exact .inl rfl
  | false =>
    show (narS lo hi l k).1 = -1 ∨ ((0 ≤ (narS lo hi l k).1 ∧ (narS lo hi l k).1 < (k : Int)) ∧ _ ∧ ∃ i p, l[i]? = some p ∧ p.lo ≠ p.hi ∧ (narS lo hi l k).2.1 = goodN lo hi (gapsL (slimL l i)) ∧ (narS lo hi l k).2.2 = (gapsL (slimL l i)).length)
    rcases narS_facts (lo := lo) (hi := hi) hl k with h | ⟨i, p, h1, h2, h3, h4, h5, h6⟩
    · exact .inl h
    · exact .inr ⟨⟨by omega, by omega⟩, rfl, i, p, h1, h2, h5, h6⟩
/-- What a choice's share is, in lowest terms. -/
def StB (s : Int × Nat × Nat) (wv : Int) (bn bd : Nat) : Prop := wv = s.1 ∧ bn = lowN s.2.1 s.2.2 ∧ bd = lowD s.2.1 s.2.2
theorem StB.zero (sure : Bool) (lo hi : Int) (l : List Prt) : StB (stN sure lo hi l 0) (-1) 0 0 := by
  have e1 : lowN 0 0 = 0 := by simp [lowN]
  have e2 : lowD 0 0 = 0 := by simp [lowD]
  cases sure
  · exact ⟨rfl, e1.symm, e2.symm⟩
  · exact ⟨rfl, e1.symm, e2.symm⟩
theorem StB.sure {lo hi : Int} {l : List Prt} {k : Nat} {wv : Int} {bn bd : Nat} (h : StB (stN true lo hi l k) wv bn bd) : StB (stN true lo hi l (k + 1)) wv bn bd := h
theorem StB.skip {lo hi : Int} {l : List Prt} {k : Nat} {wv : Int} {bn bd : Nat} {p : Prt} (h : StB (stN false lo hi l k) wv bn bd) (hk : l[k]? = some p) (hp : p.lo = p.hi) : StB (stN false lo hi l (k + 1)) wv bn bd := by
  show StB (narS lo hi l (k + 1)) wv bn bd
  rw [narS_skip hk hp]
  exact h
theorem StB.first {lo hi : Int} {l : List Prt} {k : Nat} {wv : Int} {bn bd : Nat} {p : Prt} (h : StB (stN false lo hi l k) wv bn bd) (hk : l[k]? = some p) (hp : p.lo ≠ p.hi) (hw : wv < 0) :
    StB (stN false lo hi l (k + 1)) (k : Int) (lowN (goodN lo hi (gapsL (slimL l k))) (gapsL (slimL l k)).length) (lowD (goodN lo hi (gapsL (slimL l k))) (gapsL (slimL l k)).length) := by
  show StB (narS lo hi l (k + 1)) _ _ _
  rw [narS_take hk hp (.inl (by have := h.1; change wv = (narS lo hi l k).1 at this; omega))]
  exact ⟨rfl, rfl, rfl⟩
theorem StB.more {lo hi : Int} {l : List Prt} {k m : Nat} {wv : Int} {bn bd : Nat} {p : Prt} (h : StB (stN false lo hi l k) wv bn bd) (hr : rightB l = true) (hm : widN l ≤ m) (hk : l[k]? = some p) (hp : p.lo ≠ p.hi) (hw : 0 ≤ wv)
    (hc : 0 < cmpN (lowN (goodN lo hi (gapsL (slimL l k))) (gapsL (slimL l k)).length * bd) (bn * lowD (goodN lo hi (gapsL (slimL l k))) (gapsL (slimL l k)).length)) :
    StB (stN false lo hi l (k + 1)) (k : Int) (lowN (goodN lo hi (gapsL (slimL l k))) (gapsL (slimL l k)).length) (lowD (goodN lo hi (gapsL (slimL l k))) (gapsL (slimL l k)).length) := by
  obtain ⟨e1, e2, e3⟩ := h
  rcases stN_neg (sure := false) (lo := lo) (hi := hi) (rightB_iff.1 hr).1 k with h | ⟨_, _, i, q, h1, h2, h3, h4⟩
  · omega
  · rw [e2, e3, nar_cmp (slim_len hr hk hp hm).1 (by rw [h4]; exact (slim_len hr h1 h2 hm).1)] at hc
    show StB (narS lo hi l (k + 1)) _ _ _
    rw [narS_take hk hp (.inr hc)]
    exact ⟨rfl, rfl, rfl⟩
theorem StB.less {lo hi : Int} {l : List Prt} {k m : Nat} {wv : Int} {bn bd : Nat} {p : Prt} (h : StB (stN false lo hi l k) wv bn bd) (hr : rightB l = true) (hm : widN l ≤ m) (hk : l[k]? = some p) (hp : p.lo ≠ p.hi) (hw : 0 ≤ wv)
    (hc : ¬ 0 < cmpN (lowN (goodN lo hi (gapsL (slimL l k))) (gapsL (slimL l k)).length * bd) (bn * lowD (goodN lo hi (gapsL (slimL l k))) (gapsL (slimL l k)).length)) :
    StB (stN false lo hi l (k + 1)) wv bn bd := by
  have h0 := h
  obtain ⟨e1, e2, e3⟩ := h
  rcases stN_neg (sure := false) (lo := lo) (hi := hi) (rightB_iff.1 hr).1 k with h | ⟨_, _, i, q, h1, h2, h3, h4⟩
  · omega
  · rw [e2, e3, nar_cmp (slim_len hr hk hp hm).1 (by rw [h4]; exact (slim_len hr h1 h2 hm).1)] at hc
    show StB (narS lo hi l (k + 1)) _ _ _
    rw [narS_keep hk hp (by
      rintro (h | h)
      · change wv = (narS lo hi l k).1 at e1
        omega
      · exact hc h)]
    exact h0
theorem StB.frac {sure : Bool} {lo hi : Int} {l : List Prt} {k m : Nat} {wv : Int} {bn bd : Nat} (h : StB (stN sure lo hi l k) wv bn bd) (hr : rightB l = true) (hm : widN l ≤ m) (hm2 : m ≤ 32768) (hw : 0 ≤ wv) : FracOk bn bd ∧ bn ≤ m ∧ bd ≤ m := by
  obtain ⟨e1, e2, e3⟩ := h
  rcases stN_neg (sure := sure) (lo := lo) (hi := hi) (rightB_iff.1 hr).1 k with h | ⟨_, _, i, q, h1, h2, h3, h4⟩
  · omega
  · have h5 := slim_len hr h1 h2 hm
    rw [e2, e3, h3, h4]
    exact frac_ok h5.1 (goodN_le _ _ _) h5.2 hm2
end Go.Proofs.YtpklcjbdmikbdaaGreat
namespace Go.Proofs.YtpklcjbdmikbdaaGreat
set_option maxRecDepth 100000
open Go.RowKit

theorem opts_iff {p : Prt} (h : okP p) (y : Int) : y ∈ p.opts ↔ p.low ≤ y ∧ y ≤ p.high := by
  unfold okP at h
  constructor
  · intro hy
    have := mem_opts hy
    unfold Prt.low Prt.high
    rcases this with ⟨e, a, b⟩ | ⟨e, a, b⟩ <;> rw [e] <;> simp <;> omega
  · intro ⟨a, b⟩
    unfold Prt.low at a
    unfold Prt.high at b
    cases hn : p.neg
    · rw [hn] at a b
      simp at a b
      refine List.mem_map.2 ⟨(y - p.lo).toNat, List.mem_range.2 (by unfold Prt.wd; omega), ?_⟩
      unfold Prt.off
      rw [hn]
      simp
      omega
    · rw [hn] at a b
      simp at a b
      refine List.mem_map.2 ⟨(-y - p.lo).toNat, List.mem_range.2 (by unfold Prt.wd; omega), ?_⟩
      unfold Prt.off
      rw [hn]
      simp
      omega
theorem gaps_iff : ∀ l : List Prt, okPs l → ∀ x, x ∈ gapsL l ↔ lowL l ≤ x ∧ x ≤ highL l := by
  refine snoc_induct ?_ ?_
  · intro _ x
    simp [gapsL, lowL, highL]
    omega
  · intro l p ih hok x
    have hl : okPs l := fun q hq => hok q (by simp [hq])
    have hp : okP p := hok p (by simp)
    have e1 := okP_ends hp
    have e2 := (gapsL_facts l hl).2.2.1
    rw [gapsL_snoc, lowL_snoc, highL_snoc]
    unfold spread
    constructor
    · intro hx
      obtain ⟨g, hg, hx⟩ := List.mem_flatMap.1 hx
      obtain ⟨y, hy, rfl⟩ := List.mem_map.1 hx
      have a := (ih hl g).1 hg
      have b := (opts_iff hp y).1 hy
      omega
    · intro ⟨a, b⟩
      rcases Int.le_total x (highL l + p.low) with h | h
      · refine List.mem_flatMap.2 ⟨x - p.low, (ih hl _).2 (by omega), List.mem_map.2 ⟨p.low, (opts_iff hp _).2 (by omega), by omega⟩⟩
      · refine List.mem_flatMap.2 ⟨highL l, (ih hl _).2 (by omega), List.mem_map.2 ⟨x - highL l, (opts_iff hp _).2 (by omega), by omega⟩⟩
theorem good_cons (lo hi x : Int) (S : List Int) : goodN lo hi (x :: S) = inN lo hi x + goodN lo hi S := by unfold goodN; simp
theorem inN_le (lo hi x : Int) : inN lo hi x ≤ 1 := by unfold inN; split <;> omega
theorem inN_one {lo hi x : Int} : inN lo hi x = 1 ↔ lo ≤ x ∧ x ≤ hi := by unfold inN; split <;> simp_all
theorem good_all {lo hi : Int} : ∀ {S : List Int}, goodN lo hi S = S.length ↔ ∀ x ∈ S, lo ≤ x ∧ x ≤ hi
  | [] => by simp [goodN]
  | x :: S => by
    have ih := good_all (lo := lo) (hi := hi) (S := S)
    have h1 := inN_le lo hi x
    have h2 := goodN_le lo hi S
    rw [good_cons, List.length_cons]
    constructor
    · intro h y hy
      rcases List.mem_cons.1 hy with rfl | hy
      · exact inN_one.1 (by omega)
      · exact ih.1 (by omega) y hy
    · intro h
      have a := inN_one.2 (h x (by simp))
      have b := ih.2 fun y hy => h y (by simp [hy])
      omega
theorem good_pos {lo hi : Int} : ∀ {S : List Int}, 0 < goodN lo hi S ↔ ∃ x ∈ S, lo ≤ x ∧ x ≤ hi
  | [] => by simp [goodN]
  | x :: S => by
    have ih := good_pos (lo := lo) (hi := hi) (S := S)
    rw [good_cons]
    constructor
    · intro h
      rcases Nat.eq_zero_or_pos (goodN lo hi S) with z | z
      · have := inN_le lo hi x
        exact ⟨x, by simp, inN_one.1 (by omega)⟩
      · obtain ⟨y, hy, h⟩ := ih.1 z
        exact ⟨y, by simp [hy], h⟩
    · rintro ⟨y, hy, h⟩
      rcases List.mem_cons.1 hy with rfl | hy
      · have := inN_one.2 h
        omega
      · have := ih.2 ⟨y, hy, h⟩
        omega
theorem worst_all {l : List Prt} (h : okPs l) (lo hi : Int) : goodN lo hi (gapsL l) = (gapsL l).length ↔ lo ≤ lowL l ∧ highL l ≤ hi := by
  have e := (gapsL_facts l h).2.2.1
  rw [good_all]
  constructor
  · intro a
    exact ⟨(a _ ((gaps_iff l h _).2 ⟨Int.le_refl _, e⟩)).1, (a _ ((gaps_iff l h _).2 ⟨e, Int.le_refl _⟩)).2⟩
  · intro ⟨a, b⟩ x hx
    have := (gaps_iff l h x).1 hx
    omega
theorem worst_any {l : List Prt} (h : okPs l) {lo hi : Int} (hlh : lo ≤ hi) : 0 < goodN lo hi (gapsL l) ↔ lowL l ≤ hi ∧ lo ≤ highL l := by
  have e := (gapsL_facts l h).2.2.1
  rw [good_pos]
  constructor
  · rintro ⟨x, hx, a⟩
    have := (gaps_iff l h x).1 hx
    omega
  · intro ⟨a, b⟩
    rcases Int.le_total lo (lowL l) with c | c
    · exact ⟨lowL l, (gaps_iff l h _).2 (by omega), by omega⟩
    · exact ⟨lo, (gaps_iff l h _).2 (by omega), by omega⟩
theorem frac_one {q a : Nat} (ha : 0 < a) : (q / q.gcd a = 1 ∧ a / q.gcd a = 1) ↔ q = a := by
  constructor
  · intro ⟨h1, h2⟩
    have d1 := Nat.div_mul_cancel (Nat.gcd_dvd_left q a)
    have d2 := Nat.div_mul_cancel (Nat.gcd_dvd_right q a)
    rw [h1] at d1
    rw [h2] at d2
    omega
  · rintro rfl
    rw [Nat.gcd_self]
    exact ⟨Nat.div_self ha, Nat.div_self ha⟩
end Go.Proofs.YtpklcjbdmikbdaaGreat
namespace Go.Proofs.YtpklcjbdmikbdaaGreat
set_option maxRecDepth 100000
open Go.RowKit

theorem own_cap {w : World} {base E s n c : Nat} {A : Option Addr} {xs : List Value} (h : w.ownsRow base E s (.slice A n c) n xs) : n ≤ c ∧ (A = none → c = 0) := by
  rcases h.2 with ⟨h2, _⟩ | ⟨g, cap, cur, h2, h3, h4, h5, h6, h7, h8⟩
  · cases h2
    exact ⟨Nat.le_refl _, fun _ => rfl⟩
  · cases h2
    exact ⟨h5, fun e => by cases e⟩
theorem PartsH.partsA {w : World} {A : Option Addr} {n : Nat} {l : List Prt} (h : PartsH w A n l) : PartsA w A n l :=
  ⟨h.1, fun hn => by
    obtain ⟨g, e, hg, hc⟩ := h.2 hn
    exact ⟨_, e, hg, fun k p hk => by
      have := hc k p hk
      unfold PartAt at this
      unfold PartAny
      rw [Addr.add_lit, Nat.zero_add]
      exact this⟩⟩
/-- Block R begins with these cells of parts. -/
def CB (w : World) (R : Nat) (cs : List Value) : Prop := ∃ rest : Array Value, Blk w R 50 (cs.toArray ++ rest)
section
variable {w w' : World} {R : Nat} {cs : List Value}
theorem CB.at_ (h : CB w R cs) {i : Nat} {v : Value} (hv : cs[i]? = some v) : w.cell? ⟨R, i, none⟩ = some v := by
  obtain ⟨rest, h⟩ := h
  have hi := (List.getElem?_eq_some_iff.1 hv).1
  refine (Blk.cell h i).trans ?_
  rw [Array.getElem?_append_left (by simpa using hi), List.getElem?_toArray]
  exact hv
theorem CB.set_ (h : CB w R cs) {i : Nat} (hi : i < cs.length) (v : Value) : CB (w.setCell ⟨R, i, none⟩ v) R (cs.set i v) := by
  obtain ⟨rest, h⟩ := h
  have h1 := Blk.set_ h i v
  rw [Array.setIfInBounds_append_left (by simpa using hi), List.setIfInBounds_toArray] at h1
  exact ⟨rest, h1⟩
theorem CB.frozen (h : CB w R cs) (i : Nat) : w.frozen? ⟨R, i, none⟩ = false := by
  obtain ⟨rest, h⟩ := h
  exact Blk.frozen h i
theorem CB.lt (h : CB w R cs) : R < w.heap.size := by
  obtain ⟨rest, h⟩ := h
  exact Blk.lt h
theorem CB.later (h : CB w R cs) (hb : Below w.heap.size w w') : CB w' R cs := by
  obtain ⟨rest, h⟩ := h
  exact ⟨rest, Blk.later h hb⟩
theorem CB.far (h : CB w R cs) {p : Addr} (hp : R ≠ p.block) (u : Value) : CB (w.setCell p u) R cs := by
  obtain ⟨rest, h⟩ := h
  exact ⟨rest, Blk.far h hp u⟩
theorem CB.of_own {base n c : Nat} (h : w.ownsRow base 50 3 (.slice (some ⟨R, 0, none⟩) n c) n cs) : CB w R cs := by
  obtain ⟨hl, h2⟩ := h
  rcases h2 with ⟨h2, _⟩ | ⟨g, cap, cur, h2, h3, h4, h5, h6, h7, h8⟩
  · cases h2
  · cases h2
    refine ⟨(cur.toList.drop (n * 3)).toArray, ?_⟩
    unfold Blk
    rw [h4]
    congr 2
    apply Array.toList_inj.1
    rw [← h8]
    simp
end
theorem pcells_set : ∀ {l : List Prt} {k : Nat} (p : Prt), k < l.length → (((pcells l).set (k * 3) (.int .i64 p.lo)).set (k * 3 + 1) (.int .i64 p.hi)).set (k * 3 + 2) (.bool p.neg) = pcells (l.set k p)
  | [], _, _, h => by simp at h
  | q :: l, 0, p, _ => rfl
  | q :: l, k + 1, p, h => by
    have ih := pcells_set (l := l) (k := k) p (by simpa using h)
    rw [show (k + 1) * 3 = k * 3 + 3 by omega]
    simp only [pcells, List.set_cons_succ, ← ih]
theorem parts_of_cb {w : World} {R : Nat} {l : List Prt} (h : CB w R (pcells l)) : PartsH w (some ⟨R, 0, none⟩) l.length l :=
  ⟨rfl, fun _ => ⟨R, rfl, h.lt, fun k p hk => by
    obtain ⟨a, b, c⟩ := pcells_at hk
    exact ⟨h.at_ a, h.at_ b, h.at_ c⟩⟩⟩
theorem parts_grown {w w' : World} {A : Option Addr} {n r : Nat} {l : List Prt} (h : PartsH w A n l) (hb : w.grownBy w' (some r)) (hr : ∀ g, A = some ⟨g, 0, none⟩ → 0 < n → g ≠ r) : PartsH w' A n l :=
  ⟨h.1, fun hn => by
    obtain ⟨g, e, hg, hc⟩ := h.2 hn
    have hk := hb.block g hg (by have := hr g e hn; simpa using this)
    exact ⟨g, e, Nat.lt_of_lt_of_le hg hb.size, fun k p hp => by
      obtain ⟨a, b, c⟩ := hc k p hp
      exact ⟨(World.cell?_of_block (a := ⟨g, k * 3, none⟩) hk).trans a, (World.cell?_of_block (a := ⟨g, k * 3 + 1, none⟩) hk).trans b, (World.cell?_of_block (a := ⟨g, k * 3 + 2, none⟩) hk).trans c⟩⟩⟩
theorem parts_ne {w : World} {A : Option Addr} {n N : Nat} {l : List Prt} {x y : Value} (h : PartsH w A n l) (k : Blk w N 24 #[x, y]) : ∀ g, A = some ⟨g, 0, none⟩ → 0 < n → g ≠ N := by
  rintro g e hn rfl
  obtain ⟨g', p, e', hg, hp, _, _, hc⟩ := h.at_ hn
  rw [e] at e'
  cases e'
  have := k.cell (0 * 3 + 2)
  rw [this] at hc
  cases hc
theorem parts_set {w : World} {A : Option Addr} {n N : Nat} {l : List Prt} {x y : Value} (h : PartsH w A n l) (k : Blk w N 24 #[x, y]) (i : Nat) (v : Value) : PartsH (w.setCell ⟨N, i, none⟩ v) A n l :=
  parts_grown h (only_setCell (World.grownBy.refl _ _) (p := ⟨N, i, none⟩) (.inl rfl) v) (parts_ne h k)
/-- What parts returns: a row of the call's own. -/
def PartO (w : World) (l : List Prt) (e : Ending) (w' : World) : Prop := ∃ v, e = .returned v ∧ w'.ownsRow w.heap.size 50 3 v l.length (pcells l) ∧ Below w.heap.size w w'
theorem PartO.of {w w1 : World} {l : List Prt} {k : Nat} {v : Value} (hl : l.length = k) (h1 : w1.ownsRow w.heap.size 50 3 v k (pcells l)) (h2 : (w.alloc (.cells #[] 50)).grownBy w1 (some w.heap.size)) : PartO w l (.returned v) w1 := by
  have hb : Below w.heap.size w w1 := ((Below.refl _ _).alloc (Nat.le_refl _) _).grown h2 (by simp) (fun q hq => by simp at hq; omega)
  subst hl
  exact ⟨v, rfl, h1, hb⟩
set_option maxRecDepth 100000 in
set_option maxHeartbeats 4000000 in
theorem partsO_any (A : Option Addr) (n c : Nat) (l : List Prt) (w : World) (rA : PartsA w A n l) (hc : n ≤ c) (hnil : A = none → c = 0) :
    Calls Tryz.prog 17 #[.slice A n c] w (PartO w (l.take 9)) := by
  have hb0 : Below w.heap.size w (w.alloc (.cells #[] 50)) := (Below.refl _ _).alloc (Nat.le_refl _) _
  have hmade : (w.alloc (.cells #[] 50)).ownsRow w.heap.size 50 3 (.slice (some ⟨w.heap.size, 0, none⟩) 0 0) 0 (pcells []) := World.ownsRow_made (base := w.heap.size) (e := 50) (size := 3) w #[] 0 (by simp) (by unfold maxLen; omega) (by simp)
  have hll := Lib.hid rA.1
  have rA1 := rA.later hb0
  obtain ⟨k, hk⟩ : ∃ k, k = min n 9 := ⟨_, rfl⟩
  have hmin : min (n : Int) 9 = (k : Int) := by omega
  have hT := rA1.take (m := k) (by omega)
  have HC : Hid ((l.take 9).length = k) := by show _ = _; rw [List.length_take]; have := hll.out; omega
  have e1 : Hid (l.take 9 = l.take k) := by
    show _ = _
    have h1 := hll.out
    rcases Nat.le_total n 9 with h | h
    · rw [List.take_of_length_le (by omega), List.take_of_length_le (by omega)]
    · rw [show k = 9 by omega]
  have hkc : k ≤ c := by omega
  have hkci : (k : Int) ≤ (c : Int) := by omega
  have hkq : k ≤ 100 := by omega
  have hnil' := Lib.hid hnil
  clear rA hb0 hk rA1 hnil
  rcases A with _ | a
  · have hc0 := hnil'.out rfl
    have hk0 : k = 0 := by omega
    subst hc0 hk0
    go_enter Tryz.func17, Tryz.ntmps17
    go_wp2_with (at_builtin; refine app_parts _ rfl (.tmp 3) (.tmp 8) rfl w.heap.size _ 0 [] rfl hmade none 0 0 (l.take 0) rfl hT (by omega) (by simp) ?_)
    all_goals
      intro v w1 hown hgr
      have hown2 : w1.ownsRow w.heap.size 50 3 v 0 (pcells (l.take 9)) := by rw [e1.out]; simpa [pcells] using hown
      have hfin := PartO.of HC.out hown2 (by simpa [Value.ownBlock] using hgr)
      have HFin := Lib.hid hfin
      clear hfin hown hown2 hgr
      go_wp2_with fail
      go_ret
      exact HFin.out
  · go_enter Tryz.func17, Tryz.ntmps17
    go_wp2_with (at_builtin; refine app_parts _ rfl (.tmp 3) (.tmp 8) rfl w.heap.size _ 0 [] rfl hmade (some a) k c (l.take k) rfl hT (by omega) (by simp) ?_)
    all_goals
      intro v w1 hown hgr
      have hown2 : w1.ownsRow w.heap.size 50 3 v k (pcells (l.take 9)) := by rw [e1.out]; simpa [pcells] using hown
      have hfin := PartO.of HC.out hown2 (by simpa [Value.ownBlock] using hgr)
      have HFin := Lib.hid hfin
      clear hfin hown hown2 hgr
      go_wp2_with fail
      go_ret
      exact HFin.out
end Go.Proofs.YtpklcjbdmikbdaaGreat
namespace Go.Proofs.YtpklcjbdmikbdaaGreat
set_option maxRecDepth 100000
open Go.RowKit

/-- What lies in a row of the call's own. -/
theorem own_some {w : World} {base n : Nat} {v : Value} {l : List Prt} (h : w.ownsRow base 50 3 v n (pcells l)) (hn : 0 < n) : ∃ R c, v = .slice (some ⟨R, 0, none⟩) n c ∧ base ≤ R ∧ n ≤ c ∧ CB w R (pcells l) := by
  obtain ⟨h1, h2 | ⟨g, cap, cur, h2, h3, h4, h5, h6, h7, h8⟩⟩ := h
  · omega
  · subst h2
    exact ⟨g, cap, rfl, h3, h5, CB.of_own ⟨h1, .inr ⟨g, cap, cur, rfl, h3, h4, h5, h6, h7, h8⟩⟩⟩
theorem pcells_slim : ∀ {l : List Prt} {k : Nat} {p : Prt}, l[k]? = some p → (pcells l).set (k * 3 + 1) (.int .i64 (p.hi - 1)) = pcells (slimL l k)
  | [], _, _, h => by simp at h
  | q :: l, 0, p, h => by
    simp at h
    subst h
    rfl
  | q :: l, k + 1, p, h => by
    have ih := pcells_slim (l := l) (k := k) (p := p) (by simpa using h)
    rw [show (k + 1) * 3 + 1 = (k * 3 + 1) + 3 by omega]
    unfold slimL at ih ⊢
    simp only [pcells, List.set_cons_succ, List.modify_succ_cons, ← ih]
theorem CB.slim {w : World} {R : Nat} {l : List Prt} {k : Nat} {p : Prt} (h : CB w R (pcells l)) (hk : l[k]? = some p) : CB (w.setCell ⟨R, k * 3 + 1, none⟩ (.int .i64 (p.hi - 1))) R (pcells (slimL l k)) := by
  rw [← pcells_slim hk]
  obtain ⟨_, hb, _⟩ := pcells_at hk
  exact h.set_ (List.getElem?_eq_some_iff.1 hb).1 _
set_option maxHeartbeats 8000000 in
theorem clone_any (g n c : Nat) (l : List Prt) (w : World) (rA : PartsH w (some ⟨g, 0, none⟩) n l) (hn : n ≤ 1000) (h0 : 0 < n) :
    Calls Tryz.prog 30 #[.slice (some ⟨g, 0, none⟩) n c] w fun e w' => ∃ R c', e = .returned (.slice (some ⟨R, 0, none⟩) n c') ∧ w.heap.size ≤ R ∧ n ≤ c' ∧ CB w' R (pcells l) ∧ Below w.heap.size w w' := by
  have hb0 : Below w.heap.size w (w.alloc (.cells #[] 50)) := (Below.refl _ _).alloc (Nat.le_refl _) _
  have hmade : (w.alloc (.cells #[] 50)).ownsRow w.heap.size 50 3 (.slice (some ⟨w.heap.size, 0, none⟩) 0 0) 0 (pcells []) := World.ownsRow_made (base := w.heap.size) (e := 50) (size := 3) w #[] 0 (by simp) (by unfold maxLen; omega) (by simp)
  have hsrc := (rA.later hb0).partsA
  have q22 : ∀ (w : World) (a : Option Addr) (n c n' c' : Nat), (binOp .eql 22 (.slice a n c) (.slice none n' c')).run Tryz.prog w = .ok (.bool a.isNone) w := fun w a n c n' c' => Lib.run_eql_slice_nil w _ _ a n c n' c' Tryz.underlying22
  clear rA
  go_enter Tryz.func30, Tryz.ntmps30
  go_wp2_with (at_builtin; refine app_parts _ rfl (.tmp 5) (.tmp 6) rfl w.heap.size _ 0 [] rfl hmade (some ⟨g, 0, none⟩) n c l rfl hsrc (by omega) (by simp) ?_)
  intro v w1 hown hgr
  have hb1 : Below w.heap.size w w1 := hb0.grown hgr (by simp) (fun p hp => by simp [Value.ownBlock] at hp; omega)
  have hfo : Hid (w1.ownsRow w.heap.size 50 3 v n (pcells l)) := by show World.ownsRow _ _ _ _ _ _ _; simpa [pcells] using hown
  clear hown hgr hsrc hmade hb0
  go_wp2_with fail
  go_ret
  obtain ⟨R, c', rfl, h1, h2, h3⟩ := own_some hfo.out h0
  exact ⟨R, c', rfl, h1, h2, h3, hb1⟩
set_option maxHeartbeats 8000000 in
theorem whole_any (a : Nat) (w : World) (ha : a < 9223372036854775808) :
    Calls Tryz.prog 16 #[.int .i64 (a : Int)] w fun e w' => ∃ va vb, e = .returned (.agg #[.bool false, va, .bool false, vb]) ∧ MagD w' va a ∧ MagD w' vb 1 ∧ Below w.heap.size w w' := by
  have HI1 : Hid (∀ V, Calls Tryz.prog 19 #[.int .i64 (a : Int)] V (ZR V false a)) := fun V => int_any a V ha
  have HI2 : Hid (∀ V, Calls Tryz.prog 19 #[.int .i64 1] V (ZR V false 1)) := fun V => int_any 1 V (by omega)
  have kR := Blk.new w 47 #[.bool false, .slice none 0 0, .bool false, .slice none 0 0]
  have hb1 : Below w.heap.size w (w.alloc (.cells #[.bool false, .slice none 0 0, .bool false, .slice none 0 0] 47)) := (Below.refl _ _).alloc (Nat.le_refl _) _
  go_enter Tryz.func16, Tryz.ntmps16
  go_upto_region 1 with fail
  have HALL := And.intro kR hb1
  clear kR hb1
  revert HALL
  generalize w.alloc (.cells #[.bool false, .slice none 0 0, .bool false, .slice none 0 0] 47) = w1
  generalize hNe : w.heap.size = N
  intro HALL
  obtain ⟨kR, hb1⟩ := HALL
  have HNe := Lib.hid hNe
  have hsz := hb1.size
  rw [hNe] at hsz
  clear hNe
  go_wp2_with fail
  refine (HI1.out _).mono ?_
  rintro e w2 ⟨va, rfl, h1, hbX⟩
  have hb0 := hbX
  obtain ⟨A, n, c, rfl⟩ := h1.form
  clear HI1 hbX
  go_wp2_with fail
  refine (HI2.out _).mono ?_
  rintro e w3 ⟨vb, rfl, h2, hbX⟩
  replace hb0 := hb0.trans (hbX.mono hb0.size)
  replace h1 := h1.later hbX
  obtain ⟨B, m, d, rfl⟩ := h2.form
  replace kR := kR.later hb0
  replace hb1 := hb1.trans (hb0.mono hsz)
  have cR := kR.cell
  have fR := kR.frozen
  have lR := kR.lt
  have kR1 := kR.set_ 0 (.bool false)
  have kR2 := kR1.set_ 1 (.slice A n c)
  have kR3 := kR2.set_ 2 (.bool false)
  have kR4 := kR3.set_ 3 (.slice B m d)
  have far4 : ∀ {v : Value} {k : Nat}, MagD w3 v k → MagD ((((w3.setCell ⟨N, 0, none⟩ (.bool false)).setCell ⟨N, 1, none⟩ (.slice A n c)).setCell ⟨N, 2, none⟩ (.bool false)).setCell ⟨N, 3, none⟩ (.slice B m d)) v k := fun h =>
    (((h.far (r := [.slice none 0 0, .bool false, .slice none 0 0]) kR rfl (.bool false)).far (r := [.slice none 0 0, .bool false, .slice none 0 0]) kR1 rfl (.slice A n c)).far (r := [.slice A n c, .bool false, .slice none 0 0]) kR2 rfl (.bool false)).far (r := [.slice A n c, .bool false, .slice none 0 0]) kR3 rfl (.slice B m d)
  have HM := Lib.hid (And.intro (far4 h1) (far4 h2))
  have HR := Lib.hid kR4
  have HB := Lib.hid ((((hb1.setCell (p := ⟨N, 0, none⟩) (Nat.le_refl _) (.bool false)).setCell (p := ⟨N, 1, none⟩) (Nat.le_refl _) (.slice A n c)).setCell (p := ⟨N, 2, none⟩) (Nat.le_refl _) (.bool false)).setCell (p := ⟨N, 3, none⟩) (Nat.le_refl _) (.slice B m d))
  clear HI2 hbX hb0 kR hb1 h1 h2 kR1 kR2 kR3 kR4 far4 hsz
  go_wp2_with fail
  refine bodyPost_cell N 47 #[.bool false, .slice A n c, .bool false, .slice B m d] (.agg #[.bool false, .slice A n c, .bool false, .slice B m d]) HR.out ?_ ⟨_, _, rfl, HM.out.1, HM.out.2, by rw [HNe.out]; exact HB.out⟩
  intro W' hW'
  simp [results, Tryz.results16, go_sem, hW']
end Go.Proofs.YtpklcjbdmikbdaaGreat
namespace Go.Proofs.YtpklcjbdmikbdaaGreat
set_option maxRecDepth 100000
open Go.RowKit

/-- Whether the gap is sure to fit. -/
def sureB (lo hi : Int) (l : List Prt) : Bool := (decide (lo ≤ lowL l) && decide (lowL l ≤ hi)) && (decide (lo ≤ highL l) && decide (highL l ≤ hi))
/-- What Narrow returns. -/
def narR (lo hi : Int) (l : List Prt) : Int × Int := if (stN (sureB lo hi l) lo hi l l.length).1 < 0 then (0, 6) else ((stN (sureB lo hi l) lo hi l l.length).1, 0)
set_option maxHeartbeats 8000000 in
theorem narrow_no (A : Option Addr) (n c : Nat) (l : List Prt) (lo hi : Int) (w : World) (rA : PartsH w A n l) (hn : n ≤ 1000) (hr : (rightB l && spanB lo hi) = false) :
    Calls Tryz.prog 14 #[.slice A n c, .agg #[.int .i64 lo, .int .i64 hi]] w fun e w' => e = .returned (.tuple #[.int .i64 0, .int .i64 1]) ∧ Below w.heap.size w w' := by
  have hb0 : Below w.heap.size w (w.alloc (.cells #[.int .i64 lo, .int .i64 hi] 24)) := (Below.refl _ _).alloc (Nat.le_refl _) _
  have kN := Blk.new w 24 #[.int .i64 lo, .int .i64 hi]
  have HM := Lib.hid (always_no A n c l lo hi _ (rA.later hb0) hn hr)
  clear rA hr
  go_enter Tryz.func14, Tryz.ntmps14
  go_upto_region 1 with fail
  have HALL := And.intro kN hb0
  clear kN hb0
  revert HALL HM
  generalize w.alloc (.cells #[.int .i64 lo, .int .i64 hi] 24) = w1
  intro HM HALL
  obtain ⟨kN, hb⟩ := HALL
  have cN := kN.cell
  have lN := kN.lt
  go_wp2_with fail
  refine HM.out.mono ?_
  rintro e w2 ⟨rfl, hb2⟩
  have hbl := hb.trans (hb2.mono hb.size)
  clear HM hb hb2 cN lN kN
  go_wp2_with fail
  go_ret2
  exact ⟨rfl, hbl⟩
set_option maxHeartbeats 16000000 in
theorem narrow_yes (A : Option Addr) (n c : Nat) (l : List Prt) (lo hi : Int) (w : World) (rA : PartsH w A n l) (hr : rightB l = true) (hsp : spanB lo hi = true) (hm : widN l ≤ 32768) :
    Calls Tryz.prog 14 #[.slice A n c, .agg #[.int .i64 lo, .int .i64 hi]] w fun e w' => e = .returned (.tuple #[.int .i64 (narR lo hi l).1, .int .i64 (narR lo hi l).2]) ∧ Below w.heap.size w w' := by
  have hb0 : Below w.heap.size w (w.alloc (.cells #[.int .i64 lo, .int .i64 hi] 24)) := (Below.refl _ _).alloc (Nat.le_refl _) _
  have kN := Blk.new w 24 #[.int .i64 lo, .int .i64 hi]
  have rB := rA.later hb0
  have HM := Lib.hid (always_yes A n c l lo hi _ rB hr hsp)
  have hn8 : n ≤ 8 := by rw [← rA.1]; exact (rightB_iff.1 hr).2.2
  have HAn := Lib.hid rA.1
  have HR := Lib.hid hr
  have HW := Lib.hid hm
  clear rA hm
  change Hid (Calls Tryz.prog 29 _ _ fun e w' => e = .returned (.tuple #[.bool (sureB lo hi l), .int .i64 0]) ∧ _) at HM
  obtain ⟨sure, hsure⟩ : ∃ s, s = sureB lo hi l := ⟨_, rfl⟩
  rw [← hsure] at HM
  have HV : Hid (narR lo hi l = if (stN sure lo hi l n).1 < 0 then (0, 6) else ((stN sure lo hi l n).1, 0)) := by show _ = _; unfold narR; rw [← hsure, HAn.out]
  have HOK := Lib.hid (rightB_iff.1 hr).1
  have HY : Hid (∀ (k : Nat) (p : Prt) (c' : Nat) (R : Nat) (w' : World), l[k]? = some p → p.lo ≠ p.hi → PartsH w' (some ⟨R, 0, none⟩) n (slimL l k) → _) := fun k p c' R w' h1 h2 h3 => yield_yes (some ⟨R, 0, none⟩) n c' (slimL l k) lo hi w' h3 (slim_right hr h1 h2) hsp
  clear hsure hr hsp
  go_enter Tryz.func14, Tryz.ntmps14
  go_upto_region 1 with fail
  have HALL := And.intro kN (And.intro hb0 rB)
  clear kN hb0 rB
  revert HALL HM
  generalize w.alloc (.cells #[.int .i64 lo, .int .i64 hi] 24) = w1
  intro HM HALL
  obtain ⟨kN, hb, rA⟩ := HALL
  have cN := kN.cell
  have lN := kN.lt
  go_wp2_with fail
  refine HM.out.mono ?_
  rintro e w2 ⟨rfl, hb2⟩
  have hbl := hb.trans (hb2.mono hb.size)
  replace kN := kN.later hb2
  replace rA := rA.later hb2
  clear HM hb hb2 cN lN
  have hbn : Below w2.heap.size w2 (w2.alloc (.cells #[.int .i64 0, .int .i64 0] 30)) := (Below.refl _ _).alloc (Nat.le_refl _) _
  have kB := Blk.new w2 30 #[.int .i64 0, .int .i64 0]
  go_upto_region 5 with fail
  have HALL := And.intro kB hbn
  clear kB hbn
  revert HALL
  generalize w2.alloc (.cells #[.int .i64 0, .int .i64 0] 30) = w3
  intro HALL
  obtain ⟨kB, hbf⟩ := HALL
  have hS0 := StB.zero sure lo hi l
  have HS0 := Lib.hid hS0
  clear hS0
  have nn : w2.heap.size < w3.heap.size := kB.lt
  go_wp2_with fail
  go_loopw [9, 29] (fun b i wr => ∃ (k : Nat) (wv : Int) (bn bd : Nat), k ≤ n ∧ i = .int .i64 k ∧ b = .int .i64 wv ∧ Hid (StB (stN sure lo hi l k) wv bn bd) ∧ Blk wr w2.heap.size 30 #[.int .i64 (bn : Int), .int .i64 (bd : Int)] ∧ Below w2.heap.size w2 wr) (fun _ i _ => n - (RowKit.intOf i).toNat)
  case atStart => exact ⟨0, -1, 0, 0, Nat.zero_le _, rfl, rfl, HS0.out, kB, hbf⟩
  case round =>
    clear HS0 kB hbf nn
    obtain ⟨k, wv, bn, bd, hk, rfl, rfl, hS, kB, hbf⟩ := hrel
    replace kN := kN.later hbf
    replace rA := rA.later hbf
    have hwv := stN_neg (sure := sure) (lo := lo) (hi := hi) HOK.out k
    rw [← hS.out.1] at hwv
    by_cases hlt : k < n
    · obtain ⟨g, p, rfl, hg, hlk, hp1, hp2, hp3⟩ := rA.at_ hlt
      have hkn : (k : Int) < (n : Int) := by omega
      have hkn2 : decide ((k : Int) < (n : Int)) = true := decide_eq_true hkn
      have HLK := Lib.hid hlk
      have HPO := Lib.hid (HOK.out p (List.mem_of_getElem? hlk))
      have hb1 : Below wr.heap.size wr (wr.alloc (.cells #[.int .i64 p.lo, .int .i64 p.hi, .bool p.neg] 50)) := (Below.refl _ _).alloc (Nat.le_refl _) _
      have kP := Blk.new wr 50 #[.int .i64 p.lo, .int .i64 p.hi, .bool p.neg]
      clear hlk
      go_upto_region 8 with fail
      have HALL := And.intro kP (And.intro (kB.later hb1) (And.intro (kN.later hb1) (And.intro (rA.later hb1) (hbf.trans (hb1.mono hbf.size)))))
      clear kP kB kN rA hb1 hbf hp1 hp2 hp3 hg
      revert HALL
      generalize wr.alloc (.cells #[.int .i64 p.lo, .int .i64 p.hi, .bool p.neg] 50) = w4
      generalize wr.heap.size = gP
      intro HALL
      obtain ⟨kP, kB, kN, rA, hbf⟩ := HALL
      have cP := kP.cell
      have lP := kP.lt
      cases sure with
      | true =>
        go_wp2_with fail
        go_roundw
        case rel => exact ⟨k + 1, wv, bn, bd, by omega, by go_num, rfl, hS.out.sure, kB, hbf⟩
        case measure => simp [RowKit.intOf]; omega
      | false =>
        by_cases hp : p.lo = p.hi
        · have hpe : (p.lo == p.hi) = true := by simp [hp]
          have hS2 := Lib.hid (hS.out.skip HLK.out hp)
          clear hp
          go_wp2_with fail
          go_roundw
          case rel => exact ⟨k + 1, wv, bn, bd, by omega, by go_num, rfl, hS2.out, kB, hbf⟩
          case measure => simp [RowKit.intOf]; omega
        · have hpe : (p.lo == p.hi) = false := by simp [hp]
          have HP := Lib.hid hp
          have HC := Lib.hid (clone_any g n c l w4 rA (by omega) (by omega))
          clear hp
          go_wp2_with fail
          refine HC.out.mono ?_
          rintro e w5 ⟨R, c', rfl, hR, hcR, cb, hbc⟩
          obtain ⟨_, hc2, _⟩ := pcells_at HLK.out
          have cR := cb.at_ hc2
          have fR := cb.frozen
          have lR := cb.lt
          obtain ⟨po1, po2, po3, po4⟩ := HPO.out
          have hgB := kB.lt
          have hgN := kN.lt
          have hb5 := hbc.setCell (p := ⟨R, k * 3 + 1, none⟩) hR (.int .i64 (p.hi - 1))
          have cb5 := cb.slim HLK.out
          have HX := Lib.hid (And.intro cb5 (And.intro (kB.later hb5) (And.intro (kN.later hb5) (And.intro (rA.later hb5) (hbf.trans (hb5.mono hbf.size))))))
          clear HC kP cP lP kB kN rA hbf hbc cb hR hc2 hgB hgN hb5 cb5
          go_upto_region 11 with fail
          revert HX
          generalize w5.setCell ⟨R, k * 3 + 1, none⟩ (.int .i64 (p.hi - 1)) = w6
          intro HX
          obtain ⟨cb, kB, kN, rA, hbf⟩ := HX.out
          have rS := parts_of_cb cb
          rw [slimL_len, HAn.out] at rS
          have HY2 := Lib.hid (HY.out k p c' R w6 HLK.out HP.out rS)
          obtain ⟨hl1, hl2⟩ := slim_len HR.out HLK.out HP.out HW.out
          have HF1 := Lib.hid (frac_ok hl1 (goodN_le lo hi (gapsL (slimL l k))) hl2 (Nat.le_refl _))
          have HT1 : Hid (wv < 0 → _) := fun h => hS.out.first HLK.out HP.out h
          have HT2 : Hid (0 ≤ wv → _) := fun h => hS.out.more HR.out HW.out HLK.out HP.out h
          have HT3 : Hid (0 ≤ wv → _) := fun h => hS.out.less HR.out HW.out HLK.out HP.out h
          have HF2 : Hid (0 ≤ wv → _) := fun h => hS.out.frac HR.out HW.out (Nat.le_refl _) h
          unfold fracV at HY2
          change Hid (Calls Tryz.prog 7 _ _ fun e w' => e = .returned (.tuple #[.agg #[.int .i64 ((lowN (goodN lo hi (gapsL (slimL l k))) (gapsL (slimL l k)).length : Nat) : Int), .int .i64 ((lowD (goodN lo hi (gapsL (slimL l k))) (gapsL (slimL l k)).length : Nat) : Int)], .int .i64 0]) ∧ _) at HY2
          generalize lowN (goodN lo hi (gapsL (slimL l k))) (gapsL (slimL l k)).length = an at *
          generalize lowD (goodN lo hi (gapsL (slimL l k))) (gapsL (slimL l k)).length = ad at *
          have cN := kN.cell
          have lN := kN.lt
          clear HX cb rS hl1 hl2 cR fR lR
          go_wp2_with fail
          refine HY2.out.mono ?_
          rintro e w7 ⟨rfl, hbc⟩
          have hbn : Below w7.heap.size w7 (w7.alloc (.cells #[.int .i64 (an : Int), .int .i64 (ad : Int)] 30)) := (Below.refl _ _).alloc (Nat.le_refl _) _
          have kS := Blk.new w7 30 #[.int .i64 (an : Int), .int .i64 (ad : Int)]
          have hbc2 := hbc.trans (hbn.mono hbc.size)
          have HX := And.intro kS (And.intro (kB.later hbc2) (hbf.trans (hbc2.mono hbf.size)))
          clear kS kB kN rA hbf hbc hbn hbc2 HY2 cN lN
          go_upto_region 12 with fail
          revert HX
          generalize w7.alloc (.cells #[.int .i64 (an : Int), .int .i64 (ad : Int)] 30) = w8
          generalize w7.heap.size = gS
          intro HX
          obtain ⟨kS, kB, hbf⟩ := HX
          have hkB1 := kB.set_ 0 (.int .i64 (an : Int))
          have hkB2 := hkB1.set_ 1 (.int .i64 (ad : Int))
          have hbf2 := (hbf.setCell (p := ⟨w2.heap.size, 0, none⟩) (Nat.le_refl _) (.int .i64 (an : Int))).setCell (p := ⟨w2.heap.size, 1, none⟩) (Nat.le_refl _) (.int .i64 (ad : Int))
          have HEND := Lib.hid (And.intro hkB2 hbf2)
          clear hkB1 hkB2 hbf2
          have cB := kB.cell
          have lB := kB.lt
          have fB := kB.frozen
          have cS := kS.cell
          have lS := kS.lt
          rcases hwv with hw | ⟨⟨hw, hw2⟩, _⟩
          · subst hw
            have HT := Lib.hid (HT1.out (by omega))
            clear HT1 HT2 HT3 HF1 HF2
            go_wp2_with fail
            go_roundw
            case rel => exact ⟨k + 1, k, an, ad, by omega, by go_num, rfl, HT.out, HEND.out.1, HEND.out.2⟩
            case measure => simp [RowKit.intOf]; omega
          · have hd : decide (0 ≤ wv) = true := decide_eq_true hw
            have hd2 : decide (wv ≥ 0) = true := decide_eq_true hw
            obtain ⟨o2, b3, b4⟩ := HF2.out hw
            obtain ⟨o1, b1, b2⟩ := HF1.out
            have HG : Hid (∀ V : World, _) := fun V => gearCmp_any an ad bn bd V o1 o2 b1 b2 b3 b4
            have HT2' := Lib.hid (HT2.out hw)
            have HT3' := Lib.hid (HT3.out hw)
            clear HT1 HT2 HT3 HF1 HF2 o1 o2 b1 b2 b3 b4
            generalize cmpN (an * bd) (bn * ad) = cv at *
            by_cases hc : 0 < cv
            · have hd3 : decide (cv ≤ 0) = false := decide_eq_false (by omega)
              have HT := Lib.hid (HT2'.out hc)
              clear HT2' HT3' hc
              go_wp2_with fail
              refine (HG.out _).mono ?_
              rintro e w9 ⟨rfl, hbc⟩
              clear HEND cB lB fB cS lS
              replace kB := kB.later hbc
              replace kS := kS.later hbc
              replace hbf := hbf.trans (hbc.mono hbf.size)
              have hkB1 := kB.set_ 0 (.int .i64 (an : Int))
              have hkB2 := hkB1.set_ 1 (.int .i64 (ad : Int))
              have hbf2 := (hbf.setCell (p := ⟨w2.heap.size, 0, none⟩) (Nat.le_refl _) (.int .i64 (an : Int))).setCell (p := ⟨w2.heap.size, 1, none⟩) (Nat.le_refl _) (.int .i64 (ad : Int))
              have HEND := Lib.hid (And.intro hkB2 hbf2)
              have cB := kB.cell
              have lB := kB.lt
              have fB := kB.frozen
              have cS := kS.cell
              have lS := kS.lt
              clear hkB1 hkB2 hbf2 hbc HG
              go_wp2_with fail
              go_roundw
              case rel => exact ⟨k + 1, k, an, ad, by omega, by go_num, rfl, HT.out, HEND.out.1, HEND.out.2⟩
              case measure => simp [RowKit.intOf]; omega
            · have hd3 : decide (cv ≤ 0) = true := decide_eq_true (by omega)
              have HT := Lib.hid (HT3'.out (by omega))
              clear HT2' HT3' hc
              go_wp2_with fail
              refine (HG.out _).mono ?_
              rintro e w9 ⟨rfl, hbc⟩
              clear HEND cB lB fB cS lS
              replace kB := kB.later hbc
              replace hbf := hbf.trans (hbc.mono hbf.size)
              clear hbc HG
              go_wp2_with fail
              go_roundw
              case rel => exact ⟨k + 1, wv, bn, bd, by omega, by go_num, rfl, HT.out, kB, hbf⟩
              case measure => simp [RowKit.intOf]; omega
    · obtain rfl : k = n := by omega
      have hbe := hbl.trans (hbf.mono hbl.size)
      rw [← hS.out.1] at HV
      clear hS
      rcases hwv with hw | ⟨⟨hw, hw2⟩, _⟩
      · subst hw
        have HV2 : Hid (narR lo hi l = (0, 6)) := by show _ = _; rw [HV.out, if_pos (by omega)]
        clear HV
        go_wp2_with fail
        go_ret2
        exact ⟨by rw [HV2.out]; rfl, hbe⟩
      · have HV2 : Hid (narR lo hi l = (wv, 0)) := by show _ = _; rw [HV.out, if_neg (by omega)]
        have hd : decide (wv < 0) = false := decide_eq_false (by omega)
        clear HV
        go_wp2_with fail
        go_ret2
        exact ⟨by rw [HV2.out]; rfl, hbe⟩
end Go.Proofs.YtpklcjbdmikbdaaGreat
