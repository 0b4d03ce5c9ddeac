/-
  The contract of the reference's Play.
  Conditions: the pushes are valid; the slice starts at the head of a block.
-/
import Derived.Test.YtjlnkghjiaglmaaLaps
import Derived.Deep.Cut
import Derived.Deep.AppendLies
namespace Go.Proofs.Ytjlnkghjiaglmaa
open Go.RowKit

/-- The pushes up to a time. -/
def upTo (at_ : Int) (l : List (Int × Int)) : List (Int × Int) := l.takeWhile fun x => decide (x.1 ≤ at_)
theorem upTo_go {at_ t b : Int} {l : List (Int × Int)} {k : Nat} (h : l[k]? = some (t, b)) (ht : t ≤ at_) : upTo at_ (l.drop k) = (t, b) :: upTo at_ (l.drop (k + 1)) := by
  have hk : k < l.length := (List.getElem?_eq_some_iff.1 h).1
  have e : l[k] = (t, b) := (List.getElem?_eq_some_iff.1 h).2
  unfold upTo
  rw [List.drop_eq_getElem_cons hk, List.takeWhile_cons, e, if_pos (by simpa using ht)]
theorem upTo_stop {at_ t b : Int} {l : List (Int × Int)} {k : Nat} (h : l[k]? = some (t, b)) (ht : at_ < t) : upTo at_ (l.drop k) = [] := by
  have hk : k < l.length := (List.getElem?_eq_some_iff.1 h).1
  have e : l[k] = (t, b) := (List.getElem?_eq_some_iff.1 h).2
  unfold upTo
  rw [List.drop_eq_getElem_cons hk, List.takeWhile_cons, e, if_neg (by simp; omega)]
theorem upTo_all {at_ now : Int} : ∀ {l : List (Int × Int)}, ordL now l = true → 1000000000 ≤ at_ → upTo at_ l = l
  | [], _, _ => rfl
  | x :: l, h, ha => by
    unfold ordL at h
    rw [Bool.and_eq_true, decide_eq_true_eq] at h
    unfold upTo
    rw [List.takeWhile_cons, if_pos (by simp; omega)]
    exact congrArg _ (upTo_all h.2 ha)
theorem played_late {at_ now : Int} {c : Ch} : ∀ {l : List (Int × Int)}, ordL now l = true → at_ < now → played at_ c l = c
  | [], _, _ => rfl
  | x :: l, h, ha => by
    unfold ordL at h
    rw [Bool.and_eq_true, decide_eq_true_eq] at h
    unfold played
    rw [if_neg (by omega)]
    exact played_late h.2 (by omega)
theorem played_stop {at_ now t b : Int} {c : Ch} {l : List (Int × Int)} {k : Nat} (h : l[k]? = some (t, b)) (ho : ordL now (l.drop k) = true) (ht : at_ < t) : played at_ c (l.drop k) = c := by
  rw [played_step h, if_neg (by omega)]
  rw [ordL_step h, Bool.and_eq_true] at ho
  exact played_late ho.2 ht

/-- How the reference's Play ends. -/
def RPlayR (w : World) (s : Value) (l : List Int) (e : Ending) (w' : World) : Prop := ∃ A m c, e = .returned (.tuple #[s, .slice A m c]) ∧ m ≤ 1000 ∧ RowI w' A m l ∧ Below w.heap.size w w'

/-- An owned row stands while another block is written. -/
theorem own_set {w : World} {base E s : Nat} {v : Value} {n : Nat} {xs : List Value} (h : w.ownsRow base E s v n xs) {p : Addr} (hp : v.ownBlock ≠ some p.block) (u : Value) : (w.setCell p u).ownsRow base E s v n xs :=
  h.kept ⟨rfl, rfl, rfl, by simp [World.setCell], fun k _ hne => Below.heap_setCell w p u k fun e => hne (by rw [e])⟩ (.inr hp)
/-- What the reference's chronograph shows: the main hand, the split hand. -/
structure Sh (c : Ch) (u M P : Int) : Prop where
  main : M = c.now u
  split : P = if c.h = true then c.p else c.now u
theorem Sh.zero : Sh Ch.zero 0 0 0 := ⟨rfl, rfl⟩
/-- What the loop of Play has done. -/
structure Done (w : World) (l : List (Int × Int)) (at_ : Int) (k : Nat) (c : Ch) (u M P : Int) (v : Value) (wr : World) : Prop where
  fine : c.fine u
  order : ordL u (l.drop k) = true
  play : played at_ Ch.zero l = played at_ c (l.drop k)
  shows : Sh c u M P
  res : Blk wr w.heap.size 38 #[.bool false, .bool false, .int .i64 0, .int .i64 0]
  cell : Blk wr (w.heap.size + 1 + 1) 38 #[.bool c.r, .bool c.h, .int .i64 M, .int .i64 P]
  below : Below w.heap.size w wr
  ne : v.ownBlock ≠ some (w.heap.size + 1 + 1)
  laps : ∃ acc : List Int, acc.length ≤ k ∧ lapsL Ch.zero (upTo at_ l) = acc ++ lapsL c (upTo at_ (l.drop k)) ∧ wr.ownsRow (w.heap.size + 1) 3 1 v acc.length (acc.map (Value.int .i64))
theorem sh_bd {c : Ch} {u M P : Int} (h : Sh c u M P) (hf : c.fine u) : 0 ≤ M ∧ M ≤ u ∧ 0 ≤ P ∧ P ≤ u := by
  have a := Ch.fine_now hf (Int.le_refl u)
  obtain ⟨e1, e2⟩ := h
  obtain ⟨_, _, _, f4, f5⟩ := hf
  rw [e1, e2]
  split <;> omega

/-- The world in the middle of a round. -/
structure Mid (w : World) (l : List (Int × Int)) (at_ : Int) (k : Nat) (c : Ch) (M P : Int) (v : Value) (X : World) : Prop where
  res : Blk X w.heap.size 38 #[.bool false, .bool false, .int .i64 0, .int .i64 0]
  cell : Blk X (w.heap.size + 1 + 1) 38 #[.bool c.r, .bool c.h, .int .i64 M, .int .i64 P]
  below : Below w.heap.size w X
  laps : ∃ acc : List Int, acc.length ≤ k ∧ lapsL Ch.zero (upTo at_ l) = acc ++ lapsL c (upTo at_ (l.drop k)) ∧ X.ownsRow (w.heap.size + 1) 3 1 v acc.length (acc.map (Value.int .i64))
/-- A round's end, where nothing was held. -/
structure Out (w : World) (k : Nat) (c : Ch) (M P : Int) (X : World) : Prop where
  res : Blk X w.heap.size 38 #[.bool false, .bool false, .int .i64 0, .int .i64 0]
  cell : Blk X (w.heap.size + 1 + 1) 38 #[.bool c.r, .bool c.h, .int .i64 M, .int .i64 P]

theorem row_at {w X : World} {g n k : Nat} {l : List (Int × Int)} {t b : Int} (hr : Row2 w (some ⟨g, 0, none⟩) n l) (hb : Below w.heap.size w X) (hx : l[k]? = some (t, b)) (hk : k < n) :
    X.cell? ⟨g, k * 2, none⟩ = some (.int .i64 t) ∧ X.cell? ⟨g, k * 2 + 1, none⟩ = some (.int .i64 b) := by
  obtain ⟨g', t', b', e, hg, hx', c1, c2⟩ := (hr.later hb).at_ hk
  cases e
  rw [hx] at hx'
  cases hx'
  exact ⟨c1, c2⟩
theorem row_lt {w : World} {g n k : Nat} {l : List (Int × Int)} (hr : Row2 w (some ⟨g, 0, none⟩) n l) (hk : k < n) : g < w.heap.size := by
  obtain ⟨g', t', b', e, hg, hx', c1, c2⟩ := hr.at_ hk
  cases e
  exact hg
theorem own_res {w w1 : World} {v : Value} {n : Nat} {xs : List Value} (h : w1.ownsRow (w.heap.size + 1) 3 1 v n xs) : v.ownBlock ≠ some w.heap.size := by
  rcases own_ne h (g := w.heap.size) (by omega) with h | h
  · rw [h]; simp
  · exact h
theorem own4 {w w1 : World} {v : Value} {n : Nat} {xs : List Value} (h : w1.ownsRow (w.heap.size + 1) 3 1 v n xs) (hne : v.ownBlock ≠ some w.heap.size) (M P : Int) (r h' : Value) :
    ((((w1.setCell ⟨w.heap.size, 0, none⟩ r).setCell ⟨w.heap.size, 1, none⟩ h').setCell ⟨w.heap.size, 2, none⟩ (.int .i64 M)).setCell ⟨w.heap.size, 3, none⟩ (.int .i64 P)).ownsRow (w.heap.size + 1) 3 1 v n xs :=
  own_set (own_set (own_set (own_set h hne _) hne _) hne _) hne _

set_option maxRecDepth 100000 in
set_option maxHeartbeats 8000000 in
theorem rPlay_any (A : Option Addr) (n cap : Nat) (l : List (Int × Int)) (at_ : Int) (w : World) (hr : Row2 w A n l) (hn : n ≤ 1000) (hv : ordL 0 l = true) (h1 : 0 ≤ at_) (h2 : at_ ≤ 1000000000) :
    Calls Try.prog 35 #[.slice A n cap, .int .i64 at_] w (RPlayR w (shownV (played at_ Ch.zero l) at_) (lapsL Ch.zero (upTo at_ l))) := by
  have HO := Lib.hid hv
  clear hv
  obtain ⟨i0, hi, hz0, hz1, hz2⟩ := info_parts Try.info3
  have Hi := Lib.hid hi
  have Hz0 := Lib.hid hz0
  have Hz1 := Lib.hid hz1
  have Hz2 := Lib.hid hz2
  clear hi hz0 hz1 hz2
  go_enter Try.func35, Try.ntmps35
  go_wp2_with fail
  go_loopw [7, 8, 9] (fun nw v i wr => ∃ (k : Nat) (c : Ch) (u M P : Int), k ≤ n ∧ i = .int .i64 k ∧ nw = .int .i64 u ∧ 0 ≤ u ∧ u ≤ at_ ∧ Done w l at_ k c u M P v wr) (fun _ _ i _ => n + 1 - (intOf i).toNat)
  case atStart =>
    refine ⟨0, Ch.zero, 0, 0, 0, Nat.zero_le _, rfl, rfl, Int.le_refl _, h1, Ch.fine_zero, HO.out, rfl, Sh.zero, ?_, ?_, ?_, ?_, [], by simp, rfl, ?_⟩
    · exact ((Blk.new w 38 _).alloc _).alloc _
    · exact Blk.new2 w _ _ 38 _
    · exact (((Below.refl _ _).alloc (Nat.le_refl _) _).alloc (by simp) _).alloc (by simp; omega) _
    · simp [Value.ownBlock]
    · have := World.ownsRow_made (base := w.heap.size + 1) (e := 3) (size := 1) (w.alloc (.cells #[.bool false, .bool false, .int .i64 0, .int .i64 0] 38)) #[] 0 (by simp) (by unfold maxLen; omega) (by simp)
      rw [World.size_alloc] at this
      exact this.alloc _
  case round =>
    obtain ⟨k, ⟨r, h, s, m, p⟩, u, M, P, hk, rfl, rfl, hu0, hu1, hD⟩ := hrel
    obtain ⟨v, hv8⟩ : ∃ v, v = u8 := ⟨_, rfl⟩
    subst hv8
    have HD := Lib.hid hD
    have hC := hD.cell
    have hR := hD.res
    have hbd := sh_bd hD.shows hD.fine
    have hbr := hD.below
    clear hD
    simp only at hC
    obtain ⟨m1, m2, p1, p2⟩ := hbd
    have cC := hC.cell
    have fC := hC.frozen
    have zC := hC.lt
    have zR := hR.lt
    have sw := hbr.size
    by_cases hlt : k < n
    · obtain ⟨g, t, b, rfl, hg, hx, hc1, hc2⟩ := (hr.later hbr).at_ hlt
      have hg0 := row_lt hr hlt
      have hO2 := HD.out.order
      rw [ordL_step hx, Bool.and_eq_true, decide_eq_true_eq] at hO2
      obtain ⟨⟨b1, b3, ut, t9⟩, hO3⟩ := hO2
      have HO3 := Lib.hid hO3
      have hX := Lib.hid hx
      clear hx hO3
      by_cases hat : t ≤ at_
      · have hb : b = 1 ∨ b = 2 ∨ b = 3 := by omega
        cases r <;> cases h
        · skip
          go_upto_region 13 with (fail)
          refine forget (F := Mid w l at_ k ⟨false, false, s, m, p⟩ M M v) ⟨?_, ?_, ?_, ?_⟩ ?_
          · repeat (first | exact hR | refine Blk.far ?_ (by simp <;> omega) _)
          · exact (hC.set_ 3 _)
          · repeat (first | exact hbr | refine Below.setCell ?_ (by simp <;> omega) _)
          · obtain ⟨acc, a1, a2, a3⟩ := HD.out.laps
            refine ⟨acc, a1, a2, ?_⟩
            repeat (first | exact a3 | refine own_set ?_ HD.out.ne _)
          have hsh : Sh ⟨false, false, s, m, p⟩ t M M := by
            obtain ⟨e1, e2⟩ := HD.out.shows
            constructor <;> simp [Ch.now] at e1 e2 ⊢ <;> omega
          clear cC fC hC hR hbr zC zR sw
          have hbd := sh_bd hsh (Ch.fine_mono HD.out.fine (by omega))
          obtain ⟨m1', m2', p1', p2'⟩ := hbd
          rintro X ⟨hR, hC, hbr, hl⟩
          simp only at hC
          have cC := hC.cell
          have fC := hC.frozen
          have zC := hC.lt
          have zR := hR.lt
          have sw := hbr.size
          have kn : ((k:Int) == (n:Int)) = false := by simp; omega
          obtain ⟨hc1, hc2⟩ := row_at hr hbr hX.out hlt
          have hg := Nat.lt_of_lt_of_le hg0 hbr.size
          rcases hb with rfl | rfl | rfl
          · skip
            have q1 := (hC.set_ 0 (.bool true)).cell
            have fq1 := (hC.set_ 0 (.bool true)).frozen
            go_wp2_with fail
            go_roundw
            case rel =>
              refine ⟨k + 1, _, t, M, M, by omega, by go_num, rfl, by omega, hat, Ch.fine_push 1 HD.out.fine ut, HO3.out, ?play, ?sh, ?res, ?cell, ?below, HD.out.ne, ?laps⟩
              case cell => exact ((hC.set_ 0 _).set_ 3 _)
              case res => repeat (first | exact hR | refine Blk.far ?_ (by simp <;> omega) _)
              case below => repeat (first | exact hbr | refine Below.setCell ?_ (by simp <;> omega) _)
              case play => rw [HD.out.play, played_step hX.out, if_pos hat]
              case laps =>
                obtain ⟨acc, a1, a2, a3⟩ := hl
                refine ⟨acc, by omega, ?_, ?_⟩
                · rw [a2, upTo_go hX.out hat]
                  rfl
                · repeat (first | exact a3 | refine own_set ?_ HD.out.ne _)
              case sh =>
                obtain ⟨e1, e2⟩ := hsh
                constructor <;> simp [Ch.push, Ch.now] at e1 e2 ⊢ <;> omega
            case measure => simp [intOf]; omega
          · skip
            have q1 := (hC.set_ 2 (.int .i64 0)).cell
            have fq1 := (hC.set_ 2 (.int .i64 0)).frozen
            have q2 := ((hC.set_ 2 (.int .i64 0)).set_ 1 (.bool false)).cell
            have fq2 := ((hC.set_ 2 (.int .i64 0)).set_ 1 (.bool false)).frozen
            go_wp2_with fail
            go_roundw
            case rel =>
              refine ⟨k + 1, _, t, 0, 0, by omega, by go_num, rfl, by omega, hat, Ch.fine_push 2 HD.out.fine ut, HO3.out, ?play, ?sh, ?res, ?cell, ?below, HD.out.ne, ?laps⟩
              case cell => exact (((hC.set_ 2 _).set_ 1 _).set_ 3 _)
              case res => repeat (first | exact hR | refine Blk.far ?_ (by simp <;> omega) _)
              case below => repeat (first | exact hbr | refine Below.setCell ?_ (by simp <;> omega) _)
              case play => rw [HD.out.play, played_step hX.out, if_pos hat]
              case laps =>
                obtain ⟨acc, a1, a2, a3⟩ := hl
                refine ⟨acc, by omega, ?_, ?_⟩
                · rw [a2, upTo_go hX.out hat]
                  rfl
                · repeat (first | exact a3 | refine own_set ?_ HD.out.ne _)
              case sh =>
                obtain ⟨e1, e2⟩ := hsh
                constructor <;> simp [Ch.push, Ch.now] at e1 e2 ⊢ <;> omega
            case measure => simp [intOf]; omega
          · skip
            go_wp2_with fail
            go_roundw
            case rel =>
              refine ⟨k + 1, _, t, M, M, by omega, by go_num, rfl, by omega, hat, Ch.fine_push 3 HD.out.fine ut, HO3.out, ?play, ?sh, ?res, ?cell, ?below, HD.out.ne, ?laps⟩
              case cell => exact (hC.set_ 3 _)
              case res => repeat (first | exact hR | refine Blk.far ?_ (by simp <;> omega) _)
              case below => repeat (first | exact hbr | refine Below.setCell ?_ (by simp <;> omega) _)
              case play => rw [HD.out.play, played_step hX.out, if_pos hat]
              case laps =>
                obtain ⟨acc, a1, a2, a3⟩ := hl
                refine ⟨acc, by omega, ?_, ?_⟩
                · rw [a2, upTo_go hX.out hat]
                  rfl
                · repeat (first | exact a3 | refine own_set ?_ HD.out.ne _)
              case sh =>
                obtain ⟨e1, e2⟩ := hsh
                constructor <;> simp [Ch.push, Ch.now] at e1 e2 ⊢ <;> omega
            case measure => simp [intOf]; omega
        · skip
          go_upto_region 13 with (fail)
          refine forget (F := Mid w l at_ k ⟨false, true, s, m, p⟩ M P v) ⟨?_, ?_, ?_, ?_⟩ ?_
          · repeat (first | exact hR | refine Blk.far ?_ (by simp <;> omega) _)
          · exact hC
          · repeat (first | exact hbr | refine Below.setCell ?_ (by simp <;> omega) _)
          · obtain ⟨acc, a1, a2, a3⟩ := HD.out.laps
            refine ⟨acc, a1, a2, ?_⟩
            repeat (first | exact a3 | refine own_set ?_ HD.out.ne _)
          have hsh : Sh ⟨false, true, s, m, p⟩ t M P := by
            obtain ⟨e1, e2⟩ := HD.out.shows
            constructor <;> simp [Ch.now] at e1 e2 ⊢ <;> omega
          clear cC fC hC hR hbr zC zR sw
          have hbd := sh_bd hsh (Ch.fine_mono HD.out.fine (by omega))
          obtain ⟨m1', m2', p1', p2'⟩ := hbd
          rintro X ⟨hR, hC, hbr, hl⟩
          simp only at hC
          have cC := hC.cell
          have fC := hC.frozen
          have zC := hC.lt
          have zR := hR.lt
          have sw := hbr.size
          have kn : ((k:Int) == (n:Int)) = false := by simp; omega
          obtain ⟨hc1, hc2⟩ := row_at hr hbr hX.out hlt
          have hg := Nat.lt_of_lt_of_le hg0 hbr.size
          rcases hb with rfl | rfl | rfl
          · skip
            have q1 := (hC.set_ 0 (.bool true)).cell
            have fq1 := (hC.set_ 0 (.bool true)).frozen
            go_wp2_with fail
            go_roundw
            case rel =>
              refine ⟨k + 1, _, t, M, P, by omega, by go_num, rfl, by omega, hat, Ch.fine_push 1 HD.out.fine ut, HO3.out, ?play, ?sh, ?res, ?cell, ?below, HD.out.ne, ?laps⟩
              case cell => exact (hC.set_ 0 _)
              case res => repeat (first | exact hR | refine Blk.far ?_ (by simp <;> omega) _)
              case below => repeat (first | exact hbr | refine Below.setCell ?_ (by simp <;> omega) _)
              case play => rw [HD.out.play, played_step hX.out, if_pos hat]
              case laps =>
                obtain ⟨acc, a1, a2, a3⟩ := hl
                refine ⟨acc, by omega, ?_, ?_⟩
                · rw [a2, upTo_go hX.out hat]
                  rfl
                · repeat (first | exact a3 | refine own_set ?_ HD.out.ne _)
              case sh =>
                obtain ⟨e1, e2⟩ := hsh
                constructor <;> simp [Ch.push, Ch.now] at e1 e2 ⊢ <;> omega
            case measure => simp [intOf]; omega
          · skip
            have q1 := (hC.set_ 2 (.int .i64 0)).cell
            have fq1 := (hC.set_ 2 (.int .i64 0)).frozen
            have q2 := ((hC.set_ 2 (.int .i64 0)).set_ 1 (.bool false)).cell
            have fq2 := ((hC.set_ 2 (.int .i64 0)).set_ 1 (.bool false)).frozen
            go_wp2_with fail
            go_roundw
            case rel =>
              refine ⟨k + 1, _, t, 0, 0, by omega, by go_num, rfl, by omega, hat, Ch.fine_push 2 HD.out.fine ut, HO3.out, ?play, ?sh, ?res, ?cell, ?below, HD.out.ne, ?laps⟩
              case cell => exact (((hC.set_ 2 _).set_ 1 _).set_ 3 _)
              case res => repeat (first | exact hR | refine Blk.far ?_ (by simp <;> omega) _)
              case below => repeat (first | exact hbr | refine Below.setCell ?_ (by simp <;> omega) _)
              case play => rw [HD.out.play, played_step hX.out, if_pos hat]
              case laps =>
                obtain ⟨acc, a1, a2, a3⟩ := hl
                refine ⟨acc, by omega, ?_, ?_⟩
                · rw [a2, upTo_go hX.out hat]
                  rfl
                · repeat (first | exact a3 | refine own_set ?_ HD.out.ne _)
              case sh =>
                obtain ⟨e1, e2⟩ := hsh
                constructor <;> simp [Ch.push, Ch.now] at e1 e2 ⊢ <;> omega
            case measure => simp [intOf]; omega
          · skip
            have q1 := (hC.set_ 1 (.bool false)).cell
            have fq1 := (hC.set_ 1 (.bool false)).frozen
            go_wp2_with fail
            go_roundw
            case rel =>
              refine ⟨k + 1, _, t, M, M, by omega, by go_num, rfl, by omega, hat, Ch.fine_push 3 HD.out.fine ut, HO3.out, ?play, ?sh, ?res, ?cell, ?below, HD.out.ne, ?laps⟩
              case cell => exact ((hC.set_ 1 _).set_ 3 _)
              case res => repeat (first | exact hR | refine Blk.far ?_ (by simp <;> omega) _)
              case below => repeat (first | exact hbr | refine Below.setCell ?_ (by simp <;> omega) _)
              case play => rw [HD.out.play, played_step hX.out, if_pos hat]
              case laps =>
                obtain ⟨acc, a1, a2, a3⟩ := hl
                refine ⟨acc, by omega, ?_, ?_⟩
                · rw [a2, upTo_go hX.out hat]
                  rfl
                · repeat (first | exact a3 | refine own_set ?_ HD.out.ne _)
              case sh =>
                obtain ⟨e1, e2⟩ := hsh
                constructor <;> simp [Ch.push, Ch.now] at e1 e2 ⊢ <;> omega
            case measure => simp [intOf]; omega
        · skip
          have k2 := (hC.set_ 2 (.int .i64 (M + (t - u)))).cell
          have f2 := (hC.set_ 2 (.int .i64 (M + (t - u)))).frozen
          go_upto_region 13 with (fail)
          refine forget (F := Mid w l at_ k ⟨true, false, s, m, p⟩ (M + (t - u)) (M + (t - u)) v) ⟨?_, ?_, ?_, ?_⟩ ?_
          · repeat (first | exact hR | refine Blk.far ?_ (by simp <;> omega) _)
          · exact ((hC.set_ 2 _).set_ 3 _)
          · repeat (first | exact hbr | refine Below.setCell ?_ (by simp <;> omega) _)
          · obtain ⟨acc, a1, a2, a3⟩ := HD.out.laps
            refine ⟨acc, a1, a2, ?_⟩
            repeat (first | exact a3 | refine own_set ?_ HD.out.ne _)
          have hsh : Sh ⟨true, false, s, m, p⟩ t (M + (t - u)) (M + (t - u)) := by
            obtain ⟨e1, e2⟩ := HD.out.shows
            constructor <;> simp [Ch.now] at e1 e2 ⊢ <;> omega
          clear cC fC hC hR hbr zC zR sw k2 f2
          have hbd := sh_bd hsh (Ch.fine_mono HD.out.fine (by omega))
          obtain ⟨m1', m2', p1', p2'⟩ := hbd
          generalize (M + (t - u)) = M1 at *
          rintro X ⟨hR, hC, hbr, hl⟩
          simp only at hC
          have cC := hC.cell
          have fC := hC.frozen
          have zC := hC.lt
          have zR := hR.lt
          have sw := hbr.size
          have kn : ((k:Int) == (n:Int)) = false := by simp; omega
          obtain ⟨hc1, hc2⟩ := row_at hr hbr hX.out hlt
          have hg := Nat.lt_of_lt_of_le hg0 hbr.size
          rcases hb with rfl | rfl | rfl
          · skip
            have q1 := (hC.set_ 0 (.bool false)).cell
            have fq1 := (hC.set_ 0 (.bool false)).frozen
            go_wp2_with fail
            go_roundw
            case rel =>
              refine ⟨k + 1, _, t, M1, M1, by omega, by go_num, rfl, by omega, hat, Ch.fine_push 1 HD.out.fine ut, HO3.out, ?play, ?sh, ?res, ?cell, ?below, HD.out.ne, ?laps⟩
              case cell => exact ((hC.set_ 0 _).set_ 3 _)
              case res => repeat (first | exact hR | refine Blk.far ?_ (by simp <;> omega) _)
              case below => repeat (first | exact hbr | refine Below.setCell ?_ (by simp <;> omega) _)
              case play => rw [HD.out.play, played_step hX.out, if_pos hat]
              case laps =>
                obtain ⟨acc, a1, a2, a3⟩ := hl
                refine ⟨acc, by omega, ?_, ?_⟩
                · rw [a2, upTo_go hX.out hat]
                  rfl
                · repeat (first | exact a3 | refine own_set ?_ HD.out.ne _)
              case sh =>
                obtain ⟨e1, e2⟩ := hsh
                constructor <;> simp [Ch.push, Ch.now] at e1 e2 ⊢ <;> omega
            case measure => simp [intOf]; omega
          · skip
            have q1 := (hC.set_ 2 (.int .i64 0)).cell
            have fq1 := (hC.set_ 2 (.int .i64 0)).frozen
            go_wp2_with fail
            go_roundw
            case rel =>
              refine ⟨k + 1, _, t, 0, 0, by omega, by go_num, rfl, by omega, hat, Ch.fine_push 2 HD.out.fine ut, HO3.out, ?play, ?sh, ?res, ?cell, ?below, HD.out.ne, ?laps⟩
              case cell => exact ((hC.set_ 2 _).set_ 3 _)
              case res => repeat (first | exact hR | refine Blk.far ?_ (by simp <;> omega) _)
              case below => repeat (first | exact hbr | refine Below.setCell ?_ (by simp <;> omega) _)
              case play => rw [HD.out.play, played_step hX.out, if_pos hat]
              case laps =>
                obtain ⟨acc, a1, a2, a3⟩ := hl
                refine ⟨acc, by omega, ?_, ?_⟩
                · rw [a2, upTo_go hX.out hat]
                  rfl
                · repeat (first | exact a3 | refine own_set ?_ HD.out.ne _)
              case sh =>
                obtain ⟨e1, e2⟩ := hsh
                constructor <;> simp [Ch.push, Ch.now] at e1 e2 ⊢ <;> omega
            case measure => simp [intOf]; omega
          · skip
            have q1 := (hC.set_ 1 (.bool true)).cell
            have fq1 := (hC.set_ 1 (.bool true)).frozen
            obtain ⟨acc, a1, a2, a3⟩ := hl
            have A2 := Lib.hid a2
            clear a2
            have hown := own_set (p := ⟨w.heap.size + 1 + 1, 1, none⟩) a3 HD.out.ne (.bool true)
            have hCn := hC.set_ 1 (.bool true)
            have hRn := hR.far (p := ⟨w.heap.size + 1 + 1, 1, none⟩) (by simp <;> omega) (.bool true)
            have hbn := hbr.setCell (p := ⟨w.heap.size + 1 + 1, 1, none⟩) (by simp; omega) (.bool true)
            go_wp2_with (at_builtin; refine wpList_append_lies _ rfl (.tmp 93) (.tmp 96) 44 rfl (w.heap.size + 1) 3 i0 (.int .i64 0) 1 8 Try.underlying44 Hi.out Hz0.out Hz1.out Hz2.out rfl (by decide) _ _ _ rfl (hown.alloc _) ⟨X.heap.size, 0, none⟩ 1 1 [.int .i64 M1] rfl rfl ?c1 ?c2 (by decide) ?c3 ?c4 ?c5 _ rfl ?_)
            case c1 =>
              intro j u' hj
              have := cell_one_new (X.setCell ⟨w.heap.size + 1 + 1, 1, none⟩ (.bool true)) (.int .i64 M1) 3 j u' hj
              simpa using this
            case c2 => simp [Value.oneCell']
            case c3 => unfold maxLen; omega
            case c4 => omega
            case c5 => simp [World.setCell]; omega
            intro g' cap' w3 hown3 hgrow3 hg' hlt3
            have hneB : v.ownBlock ≠ some w.heap.size := own_res a3
            have hC3 := (hCn.alloc (.cells #[.int .i64 M1] 3)).grown hgrow3 (fun e => HD.out.ne e.symm)
            have hR3 := (hRn.alloc (.cells #[.int .i64 M1] 3)).grown hgrow3 (fun e => hneB e.symm)
            have hb3 := (hbn.alloc (by simp [World.setCell]; omega) (.cells #[.int .i64 M1] 3)).grown hgrow3 (by simp [World.setCell]; omega) (fun k hk => by have := (a3.lt k hk).1; omega)
            have hne3 : (Value.slice (some ⟨g', 0, none⟩) (acc.length + 1) cap').ownBlock ≠ some (w.heap.size + 1 + 1) := by
              show some g' ≠ _
              rcases hg' with h | h
              · rw [← h]; exact HD.out.ne
              · rw [h]; simp; omega
            have kC3 := hC3.cell
            clear q1 fq1 cC fC
            go_wp2_with fail
            go_roundw
            case rel =>
              refine ⟨k + 1, _, t, M1, M1, by omega, by go_num, rfl, by omega, hat, Ch.fine_push 3 HD.out.fine ut, HO3.out, ?play, ?sh, ?res, ?cell, ?below, hne3, ?laps⟩
              case cell => exact hC3
              case res => exact hR3
              case below => exact hb3
              case play => rw [HD.out.play, played_step hX.out, if_pos hat]
              case laps =>
                refine ⟨acc ++ [M1], by simp; omega, ?_, by simpa using hown3⟩
                rw [A2.out, upTo_go hX.out hat]
                obtain ⟨e1, e2⟩ := hsh
                simp [lapsL, Ch.lap, Ch.push, Ch.now] at e1 e2 ⊢
                omega
              case sh =>
                obtain ⟨e1, e2⟩ := hsh
                constructor <;> simp [Ch.push, Ch.now] at e1 e2 ⊢ <;> omega
            case measure => simp [intOf]; omega
        · skip
          have k2 := (hC.set_ 2 (.int .i64 (M + (t - u)))).cell
          have f2 := (hC.set_ 2 (.int .i64 (M + (t - u)))).frozen
          go_upto_region 13 with (fail)
          refine forget (F := Mid w l at_ k ⟨true, true, s, m, p⟩ (M + (t - u)) P v) ⟨?_, ?_, ?_, ?_⟩ ?_
          · repeat (first | exact hR | refine Blk.far ?_ (by simp <;> omega) _)
          · exact (hC.set_ 2 _)
          · repeat (first | exact hbr | refine Below.setCell ?_ (by simp <;> omega) _)
          · obtain ⟨acc, a1, a2, a3⟩ := HD.out.laps
            refine ⟨acc, a1, a2, ?_⟩
            repeat (first | exact a3 | refine own_set ?_ HD.out.ne _)
          have hsh : Sh ⟨true, true, s, m, p⟩ t (M + (t - u)) P := by
            obtain ⟨e1, e2⟩ := HD.out.shows
            constructor <;> simp [Ch.now] at e1 e2 ⊢ <;> omega
          clear cC fC hC hR hbr zC zR sw k2 f2
          have hbd := sh_bd hsh (Ch.fine_mono HD.out.fine (by omega))
          obtain ⟨m1', m2', p1', p2'⟩ := hbd
          generalize (M + (t - u)) = M1 at *
          rintro X ⟨hR, hC, hbr, hl⟩
          simp only at hC
          have cC := hC.cell
          have fC := hC.frozen
          have zC := hC.lt
          have zR := hR.lt
          have sw := hbr.size
          have kn : ((k:Int) == (n:Int)) = false := by simp; omega
          obtain ⟨hc1, hc2⟩ := row_at hr hbr hX.out hlt
          have hg := Nat.lt_of_lt_of_le hg0 hbr.size
          rcases hb with rfl | rfl | rfl
          · skip
            have q1 := (hC.set_ 0 (.bool false)).cell
            have fq1 := (hC.set_ 0 (.bool false)).frozen
            go_wp2_with fail
            go_roundw
            case rel =>
              refine ⟨k + 1, _, t, M1, P, by omega, by go_num, rfl, by omega, hat, Ch.fine_push 1 HD.out.fine ut, HO3.out, ?play, ?sh, ?res, ?cell, ?below, HD.out.ne, ?laps⟩
              case cell => exact (hC.set_ 0 _)
              case res => repeat (first | exact hR | refine Blk.far ?_ (by simp <;> omega) _)
              case below => repeat (first | exact hbr | refine Below.setCell ?_ (by simp <;> omega) _)
              case play => rw [HD.out.play, played_step hX.out, if_pos hat]
              case laps =>
                obtain ⟨acc, a1, a2, a3⟩ := hl
                refine ⟨acc, by omega, ?_, ?_⟩
                · rw [a2, upTo_go hX.out hat]
                  rfl
                · repeat (first | exact a3 | refine own_set ?_ HD.out.ne _)
              case sh =>
                obtain ⟨e1, e2⟩ := hsh
                constructor <;> simp [Ch.push, Ch.now] at e1 e2 ⊢ <;> omega
            case measure => simp [intOf]; omega
          · skip
            have q1 := (hC.set_ 2 (.int .i64 0)).cell
            have fq1 := (hC.set_ 2 (.int .i64 0)).frozen
            go_wp2_with fail
            go_roundw
            case rel =>
              refine ⟨k + 1, _, t, 0, P, by omega, by go_num, rfl, by omega, hat, Ch.fine_push 2 HD.out.fine ut, HO3.out, ?play, ?sh, ?res, ?cell, ?below, HD.out.ne, ?laps⟩
              case cell => exact (hC.set_ 2 _)
              case res => repeat (first | exact hR | refine Blk.far ?_ (by simp <;> omega) _)
              case below => repeat (first | exact hbr | refine Below.setCell ?_ (by simp <;> omega) _)
              case play => rw [HD.out.play, played_step hX.out, if_pos hat]
              case laps =>
                obtain ⟨acc, a1, a2, a3⟩ := hl
                refine ⟨acc, by omega, ?_, ?_⟩
                · rw [a2, upTo_go hX.out hat]
                  rfl
                · repeat (first | exact a3 | refine own_set ?_ HD.out.ne _)
              case sh =>
                obtain ⟨e1, e2⟩ := hsh
                constructor <;> simp [Ch.push, Ch.now] at e1 e2 ⊢ <;> omega
            case measure => simp [intOf]; omega
          · skip
            have q1 := (hC.set_ 1 (.bool false)).cell
            have fq1 := (hC.set_ 1 (.bool false)).frozen
            go_wp2_with fail
            go_roundw
            case rel =>
              refine ⟨k + 1, _, t, M1, M1, by omega, by go_num, rfl, by omega, hat, Ch.fine_push 3 HD.out.fine ut, HO3.out, ?play, ?sh, ?res, ?cell, ?below, HD.out.ne, ?laps⟩
              case cell => exact ((hC.set_ 1 _).set_ 3 _)
              case res => repeat (first | exact hR | refine Blk.far ?_ (by simp <;> omega) _)
              case below => repeat (first | exact hbr | refine Below.setCell ?_ (by simp <;> omega) _)
              case play => rw [HD.out.play, played_step hX.out, if_pos hat]
              case laps =>
                obtain ⟨acc, a1, a2, a3⟩ := hl
                refine ⟨acc, by omega, ?_, ?_⟩
                · rw [a2, upTo_go hX.out hat]
                  rfl
                · repeat (first | exact a3 | refine own_set ?_ HD.out.ne _)
              case sh =>
                obtain ⟨e1, e2⟩ := hsh
                constructor <;> simp [Ch.push, Ch.now] at e1 e2 ⊢ <;> omega
            case measure => simp [intOf]; omega
      · cases r <;> cases h
        · skip
          go_upto_region 13 with (fail)
          refine forget (F := Mid w l at_ k ⟨false, false, s, m, p⟩ M M v) ⟨?_, ?_, ?_, ?_⟩ ?_
          · repeat (first | exact hR | refine Blk.far ?_ (by simp <;> omega) _)
          · exact (hC.set_ 3 _)
          · repeat (first | exact hbr | refine Below.setCell ?_ (by simp <;> omega) _)
          · obtain ⟨acc, a1, a2, a3⟩ := HD.out.laps
            refine ⟨acc, a1, a2, ?_⟩
            repeat (first | exact a3 | refine own_set ?_ HD.out.ne _)
          have hsh : Sh ⟨false, false, s, m, p⟩ at_ M M := by
            obtain ⟨e1, e2⟩ := HD.out.shows
            constructor <;> simp [Ch.now] at e1 e2 ⊢ <;> omega
          clear cC fC hC hR hbr zC zR sw
          have hbd := sh_bd hsh (Ch.fine_mono HD.out.fine (by omega))
          obtain ⟨m1', m2', p1', p2'⟩ := hbd
          rintro X ⟨hR, hC, hbr, hl⟩
          simp only at hC
          have cC := hC.cell
          have fC := hC.frozen
          have zC := hC.lt
          have zR := hR.lt
          have sw := hbr.size
          have kn : ((k:Int) == (n:Int)) = false := by simp; omega
          obtain ⟨hc1, hc2⟩ := row_at hr hbr hX.out hlt
          have hg := Nat.lt_of_lt_of_le hg0 hbr.size
          obtain ⟨acc, a1, a2, a3⟩ := hl
          obtain ⟨A', c', hv⟩ := own_slice a3
          have Hv := Lib.hid hv
          have A2 := Lib.hid a2
          clear hv a2
          have kR := hR.cell
          have fR := hR.frozen
          go_wp2_with fail
          rw [Hv.out] at a3 ⊢
          have hown : World.ownsRow _ (w.heap.size + 1) 3 1 (.slice A' acc.length c') acc.length (acc.map (Value.int .i64)) := own4 a3 (own_res a3) M M (.bool false) (.bool false)
          have hI := own_rowI hown
          refine bodyPost_cell w.heap.size 38 #[.bool false, .bool false, .int .i64 M, .int .i64 M] (.tuple #[K4 false false M M, .slice A' acc.length c']) ?_ ?_ ⟨A', acc.length, c', ?_, by omega, ?_, ?_⟩
          · exact (((hR.set_ 0 _).set_ 1 _).set_ 2 _).set_ 3 _
          · intro W' hW'
            simp [results, Try.results35, go_sem, hW']
          · rw [HD.out.play, played_stop hX.out HD.out.order (by omega)]
            obtain ⟨e1, e2⟩ := hsh
            unfold shownV
            simp only at e1 e2 ⊢
            rw [← e2, ← e1]
          · rw [A2.out, upTo_stop hX.out (by omega)]
            show RowI _ _ _ (acc ++ [])
            rw [List.append_nil]
            exact hI
          · exact (((hbr.setCell (by simp) _).setCell (by simp) _).setCell (by simp) _).setCell (by simp) _
        · skip
          go_upto_region 13 with (fail)
          refine forget (F := Mid w l at_ k ⟨false, true, s, m, p⟩ M P v) ⟨?_, ?_, ?_, ?_⟩ ?_
          · repeat (first | exact hR | refine Blk.far ?_ (by simp <;> omega) _)
          · exact hC
          · repeat (first | exact hbr | refine Below.setCell ?_ (by simp <;> omega) _)
          · obtain ⟨acc, a1, a2, a3⟩ := HD.out.laps
            refine ⟨acc, a1, a2, ?_⟩
            repeat (first | exact a3 | refine own_set ?_ HD.out.ne _)
          have hsh : Sh ⟨false, true, s, m, p⟩ at_ M P := by
            obtain ⟨e1, e2⟩ := HD.out.shows
            constructor <;> simp [Ch.now] at e1 e2 ⊢ <;> omega
          clear cC fC hC hR hbr zC zR sw
          have hbd := sh_bd hsh (Ch.fine_mono HD.out.fine (by omega))
          obtain ⟨m1', m2', p1', p2'⟩ := hbd
          rintro X ⟨hR, hC, hbr, hl⟩
          simp only at hC
          have cC := hC.cell
          have fC := hC.frozen
          have zC := hC.lt
          have zR := hR.lt
          have sw := hbr.size
          have kn : ((k:Int) == (n:Int)) = false := by simp; omega
          obtain ⟨hc1, hc2⟩ := row_at hr hbr hX.out hlt
          have hg := Nat.lt_of_lt_of_le hg0 hbr.size
          obtain ⟨acc, a1, a2, a3⟩ := hl
          obtain ⟨A', c', hv⟩ := own_slice a3
          have Hv := Lib.hid hv
          have A2 := Lib.hid a2
          clear hv a2
          have kR := hR.cell
          have fR := hR.frozen
          go_wp2_with fail
          rw [Hv.out] at a3 ⊢
          have hown : World.ownsRow _ (w.heap.size + 1) 3 1 (.slice A' acc.length c') acc.length (acc.map (Value.int .i64)) := own4 a3 (own_res a3) M P (.bool false) (.bool true)
          have hI := own_rowI hown
          refine bodyPost_cell w.heap.size 38 #[.bool false, .bool true, .int .i64 M, .int .i64 P] (.tuple #[K4 false true M P, .slice A' acc.length c']) ?_ ?_ ⟨A', acc.length, c', ?_, by omega, ?_, ?_⟩
          · exact (((hR.set_ 0 _).set_ 1 _).set_ 2 _).set_ 3 _
          · intro W' hW'
            simp [results, Try.results35, go_sem, hW']
          · rw [HD.out.play, played_stop hX.out HD.out.order (by omega)]
            obtain ⟨e1, e2⟩ := hsh
            unfold shownV
            simp only at e1 e2 ⊢
            rw [← e2, ← e1]
          · rw [A2.out, upTo_stop hX.out (by omega)]
            show RowI _ _ _ (acc ++ [])
            rw [List.append_nil]
            exact hI
          · exact (((hbr.setCell (by simp) _).setCell (by simp) _).setCell (by simp) _).setCell (by simp) _
        · skip
          have k2 := (hC.set_ 2 (.int .i64 (M + (at_ - u)))).cell
          have f2 := (hC.set_ 2 (.int .i64 (M + (at_ - u)))).frozen
          go_upto_region 13 with (fail)
          refine forget (F := Mid w l at_ k ⟨true, false, s, m, p⟩ (M + (at_ - u)) (M + (at_ - u)) v) ⟨?_, ?_, ?_, ?_⟩ ?_
          · repeat (first | exact hR | refine Blk.far ?_ (by simp <;> omega) _)
          · exact ((hC.set_ 2 _).set_ 3 _)
          · repeat (first | exact hbr | refine Below.setCell ?_ (by simp <;> omega) _)
          · obtain ⟨acc, a1, a2, a3⟩ := HD.out.laps
            refine ⟨acc, a1, a2, ?_⟩
            repeat (first | exact a3 | refine own_set ?_ HD.out.ne _)
          have hsh : Sh ⟨true, false, s, m, p⟩ at_ (M + (at_ - u)) (M + (at_ - u)) := by
            obtain ⟨e1, e2⟩ := HD.out.shows
            constructor <;> simp [Ch.now] at e1 e2 ⊢ <;> omega
          clear cC fC hC hR hbr zC zR sw k2 f2
          have hbd := sh_bd hsh (Ch.fine_mono HD.out.fine (by omega))
          obtain ⟨m1', m2', p1', p2'⟩ := hbd
          generalize (M + (at_ - u)) = M1 at *
          rintro X ⟨hR, hC, hbr, hl⟩
          simp only at hC
          have cC := hC.cell
          have fC := hC.frozen
          have zC := hC.lt
          have zR := hR.lt
          have sw := hbr.size
          have kn : ((k:Int) == (n:Int)) = false := by simp; omega
          obtain ⟨hc1, hc2⟩ := row_at hr hbr hX.out hlt
          have hg := Nat.lt_of_lt_of_le hg0 hbr.size
          obtain ⟨acc, a1, a2, a3⟩ := hl
          obtain ⟨A', c', hv⟩ := own_slice a3
          have Hv := Lib.hid hv
          have A2 := Lib.hid a2
          clear hv a2
          have kR := hR.cell
          have fR := hR.frozen
          go_wp2_with fail
          rw [Hv.out] at a3 ⊢
          have hown : World.ownsRow _ (w.heap.size + 1) 3 1 (.slice A' acc.length c') acc.length (acc.map (Value.int .i64)) := own4 a3 (own_res a3) M1 M1 (.bool true) (.bool false)
          have hI := own_rowI hown
          refine bodyPost_cell w.heap.size 38 #[.bool true, .bool false, .int .i64 M1, .int .i64 M1] (.tuple #[K4 true false M1 M1, .slice A' acc.length c']) ?_ ?_ ⟨A', acc.length, c', ?_, by omega, ?_, ?_⟩
          · exact (((hR.set_ 0 _).set_ 1 _).set_ 2 _).set_ 3 _
          · intro W' hW'
            simp [results, Try.results35, go_sem, hW']
          · rw [HD.out.play, played_stop hX.out HD.out.order (by omega)]
            obtain ⟨e1, e2⟩ := hsh
            unfold shownV
            simp only at e1 e2 ⊢
            rw [← e2, ← e1]
          · rw [A2.out, upTo_stop hX.out (by omega)]
            show RowI _ _ _ (acc ++ [])
            rw [List.append_nil]
            exact hI
          · exact (((hbr.setCell (by simp) _).setCell (by simp) _).setCell (by simp) _).setCell (by simp) _
        · skip
          have k2 := (hC.set_ 2 (.int .i64 (M + (at_ - u)))).cell
          have f2 := (hC.set_ 2 (.int .i64 (M + (at_ - u)))).frozen
          go_upto_region 13 with (fail)
          refine forget (F := Mid w l at_ k ⟨true, true, s, m, p⟩ (M + (at_ - u)) P v) ⟨?_, ?_, ?_, ?_⟩ ?_
          · repeat (first | exact hR | refine Blk.far ?_ (by simp <;> omega) _)
          · exact (hC.set_ 2 _)
          · repeat (first | exact hbr | refine Below.setCell ?_ (by simp <;> omega) _)
          · obtain ⟨acc, a1, a2, a3⟩ := HD.out.laps
            refine ⟨acc, a1, a2, ?_⟩
            repeat (first | exact a3 | refine own_set ?_ HD.out.ne _)
          have hsh : Sh ⟨true, true, s, m, p⟩ at_ (M + (at_ - u)) P := by
            obtain ⟨e1, e2⟩ := HD.out.shows
            constructor <;> simp [Ch.now] at e1 e2 ⊢ <;> omega
          clear cC fC hC hR hbr zC zR sw k2 f2
          have hbd := sh_bd hsh (Ch.fine_mono HD.out.fine (by omega))
          obtain ⟨m1', m2', p1', p2'⟩ := hbd
          generalize (M + (at_ - u)) = M1 at *
          rintro X ⟨hR, hC, hbr, hl⟩
          simp only at hC
          have cC := hC.cell
          have fC := hC.frozen
          have zC := hC.lt
          have zR := hR.lt
          have sw := hbr.size
          have kn : ((k:Int) == (n:Int)) = false := by simp; omega
          obtain ⟨hc1, hc2⟩ := row_at hr hbr hX.out hlt
          have hg := Nat.lt_of_lt_of_le hg0 hbr.size
          obtain ⟨acc, a1, a2, a3⟩ := hl
          obtain ⟨A', c', hv⟩ := own_slice a3
          have Hv := Lib.hid hv
          have A2 := Lib.hid a2
          clear hv a2
          have kR := hR.cell
          have fR := hR.frozen
          go_wp2_with fail
          rw [Hv.out] at a3 ⊢
          have hown : World.ownsRow _ (w.heap.size + 1) 3 1 (.slice A' acc.length c') acc.length (acc.map (Value.int .i64)) := own4 a3 (own_res a3) M1 P (.bool true) (.bool true)
          have hI := own_rowI hown
          refine bodyPost_cell w.heap.size 38 #[.bool true, .bool true, .int .i64 M1, .int .i64 P] (.tuple #[K4 true true M1 P, .slice A' acc.length c']) ?_ ?_ ⟨A', acc.length, c', ?_, by omega, ?_, ?_⟩
          · exact (((hR.set_ 0 _).set_ 1 _).set_ 2 _).set_ 3 _
          · intro W' hW'
            simp [results, Try.results35, go_sem, hW']
          · rw [HD.out.play, played_stop hX.out HD.out.order (by omega)]
            obtain ⟨e1, e2⟩ := hsh
            unfold shownV
            simp only at e1 e2 ⊢
            rw [← e2, ← e1]
          · rw [A2.out, upTo_stop hX.out (by omega)]
            show RowI _ _ _ (acc ++ [])
            rw [List.append_nil]
            exact hI
          · exact (((hbr.setCell (by simp) _).setCell (by simp) _).setCell (by simp) _).setCell (by simp) _
    · have hkn : l.drop k = [] := List.drop_of_length_le (by rw [hr.1]; omega)
      have Hkn := Lib.hid hkn
      clear hkn
      obtain rfl : k = n := by omega
      cases r <;> cases h
      · skip
        go_upto_region 13 with (fail)
        refine forget (F := Mid w l at_ k ⟨false, false, s, m, p⟩ M M v) ⟨?_, ?_, ?_, ?_⟩ ?_
        · repeat (first | exact hR | refine Blk.far ?_ (by simp <;> omega) _)
        · exact (hC.set_ 3 _)
        · repeat (first | exact hbr | refine Below.setCell ?_ (by simp <;> omega) _)
        · obtain ⟨acc, a1, a2, a3⟩ := HD.out.laps
          refine ⟨acc, a1, a2, ?_⟩
          repeat (first | exact a3 | refine own_set ?_ HD.out.ne _)
        have hsh : Sh ⟨false, false, s, m, p⟩ at_ M M := by
          obtain ⟨e1, e2⟩ := HD.out.shows
          constructor <;> simp [Ch.now] at e1 e2 ⊢ <;> omega
        clear cC fC hC hR hbr zC zR sw
        have hbd := sh_bd hsh (Ch.fine_mono HD.out.fine (by omega))
        obtain ⟨m1', m2', p1', p2'⟩ := hbd
        rintro X ⟨hR, hC, hbr, hl⟩
        simp only at hC
        have cC := hC.cell
        have fC := hC.frozen
        have zC := hC.lt
        have zR := hR.lt
        have sw := hbr.size
        have kn : ((k:Int) == (k:Int)) = true := by simp
        obtain ⟨acc, a1, a2, a3⟩ := hl
        obtain ⟨A', c', hv⟩ := own_slice a3
        have Hv := Lib.hid hv
        have A2 := Lib.hid a2
        clear hv a2
        have kR := hR.cell
        have fR := hR.frozen
        go_wp2_with fail
        rw [Hv.out] at a3 ⊢
        have hown : World.ownsRow _ (w.heap.size + 1) 3 1 (.slice A' acc.length c') acc.length (acc.map (Value.int .i64)) := own4 a3 (own_res a3) M M (.bool false) (.bool false)
        have hI := own_rowI hown
        refine bodyPost_cell w.heap.size 38 #[.bool false, .bool false, .int .i64 M, .int .i64 M] (.tuple #[K4 false false M M, .slice A' acc.length c']) ?_ ?_ ⟨A', acc.length, c', ?_, by omega, ?_, ?_⟩
        · exact (((hR.set_ 0 _).set_ 1 _).set_ 2 _).set_ 3 _
        · intro W' hW'
          simp [results, Try.results35, go_sem, hW']
        · rw [HD.out.play, Hkn.out, played]
          obtain ⟨e1, e2⟩ := hsh
          unfold shownV
          simp only at e1 e2 ⊢
          rw [← e2, ← e1]
        · rw [A2.out, Hkn.out]
          show RowI _ _ _ (acc ++ [])
          rw [List.append_nil]
          exact hI
        · exact (((hbr.setCell (by simp) _).setCell (by simp) _).setCell (by simp) _).setCell (by simp) _
      · skip
        go_upto_region 13 with (fail)
        refine forget (F := Mid w l at_ k ⟨false, true, s, m, p⟩ M P v) ⟨?_, ?_, ?_, ?_⟩ ?_
        · repeat (first | exact hR | refine Blk.far ?_ (by simp <;> omega) _)
        · exact hC
        · repeat (first | exact hbr | refine Below.setCell ?_ (by simp <;> omega) _)
        · obtain ⟨acc, a1, a2, a3⟩ := HD.out.laps
          refine ⟨acc, a1, a2, ?_⟩
          repeat (first | exact a3 | refine own_set ?_ HD.out.ne _)
        have hsh : Sh ⟨false, true, s, m, p⟩ at_ M P := by
          obtain ⟨e1, e2⟩ := HD.out.shows
          constructor <;> simp [Ch.now] at e1 e2 ⊢ <;> omega
        clear cC fC hC hR hbr zC zR sw
        have hbd := sh_bd hsh (Ch.fine_mono HD.out.fine (by omega))
        obtain ⟨m1', m2', p1', p2'⟩ := hbd
        rintro X ⟨hR, hC, hbr, hl⟩
        simp only at hC
        have cC := hC.cell
        have fC := hC.frozen
        have zC := hC.lt
        have zR := hR.lt
        have sw := hbr.size
        have kn : ((k:Int) == (k:Int)) = true := by simp
        obtain ⟨acc, a1, a2, a3⟩ := hl
        obtain ⟨A', c', hv⟩ := own_slice a3
        have Hv := Lib.hid hv
        have A2 := Lib.hid a2
        clear hv a2
        have kR := hR.cell
        have fR := hR.frozen
        go_wp2_with fail
        rw [Hv.out] at a3 ⊢
        have hown : World.ownsRow _ (w.heap.size + 1) 3 1 (.slice A' acc.length c') acc.length (acc.map (Value.int .i64)) := own4 a3 (own_res a3) M P (.bool false) (.bool true)
        have hI := own_rowI hown
        refine bodyPost_cell w.heap.size 38 #[.bool false, .bool true, .int .i64 M, .int .i64 P] (.tuple #[K4 false true M P, .slice A' acc.length c']) ?_ ?_ ⟨A', acc.length, c', ?_, by omega, ?_, ?_⟩
        · exact (((hR.set_ 0 _).set_ 1 _).set_ 2 _).set_ 3 _
        · intro W' hW'
          simp [results, Try.results35, go_sem, hW']
        · rw [HD.out.play, Hkn.out, played]
          obtain ⟨e1, e2⟩ := hsh
          unfold shownV
          simp only at e1 e2 ⊢
          rw [← e2, ← e1]
        · rw [A2.out, Hkn.out]
          show RowI _ _ _ (acc ++ [])
          rw [List.append_nil]
          exact hI
        · exact (((hbr.setCell (by simp) _).setCell (by simp) _).setCell (by simp) _).setCell (by simp) _
      · skip
        have k2 := (hC.set_ 2 (.int .i64 (M + (at_ - u)))).cell
        have f2 := (hC.set_ 2 (.int .i64 (M + (at_ - u)))).frozen
        go_upto_region 13 with (fail)
        refine forget (F := Mid w l at_ k ⟨true, false, s, m, p⟩ (M + (at_ - u)) (M + (at_ - u)) v) ⟨?_, ?_, ?_, ?_⟩ ?_
        · repeat (first | exact hR | refine Blk.far ?_ (by simp <;> omega) _)
        · exact ((hC.set_ 2 _).set_ 3 _)
        · repeat (first | exact hbr | refine Below.setCell ?_ (by simp <;> omega) _)
        · obtain ⟨acc, a1, a2, a3⟩ := HD.out.laps
          refine ⟨acc, a1, a2, ?_⟩
          repeat (first | exact a3 | refine own_set ?_ HD.out.ne _)
        have hsh : Sh ⟨true, false, s, m, p⟩ at_ (M + (at_ - u)) (M + (at_ - u)) := by
          obtain ⟨e1, e2⟩ := HD.out.shows
          constructor <;> simp [Ch.now] at e1 e2 ⊢ <;> omega
        clear cC fC hC hR hbr zC zR sw k2 f2
        have hbd := sh_bd hsh (Ch.fine_mono HD.out.fine (by omega))
        obtain ⟨m1', m2', p1', p2'⟩ := hbd
        generalize (M + (at_ - u)) = M1 at *
        rintro X ⟨hR, hC, hbr, hl⟩
        simp only at hC
        have cC := hC.cell
        have fC := hC.frozen
        have zC := hC.lt
        have zR := hR.lt
        have sw := hbr.size
        have kn : ((k:Int) == (k:Int)) = true := by simp
        obtain ⟨acc, a1, a2, a3⟩ := hl
        obtain ⟨A', c', hv⟩ := own_slice a3
        have Hv := Lib.hid hv
        have A2 := Lib.hid a2
        clear hv a2
        have kR := hR.cell
        have fR := hR.frozen
        go_wp2_with fail
        rw [Hv.out] at a3 ⊢
        have hown : World.ownsRow _ (w.heap.size + 1) 3 1 (.slice A' acc.length c') acc.length (acc.map (Value.int .i64)) := own4 a3 (own_res a3) M1 M1 (.bool true) (.bool false)
        have hI := own_rowI hown
        refine bodyPost_cell w.heap.size 38 #[.bool true, .bool false, .int .i64 M1, .int .i64 M1] (.tuple #[K4 true false M1 M1, .slice A' acc.length c']) ?_ ?_ ⟨A', acc.length, c', ?_, by omega, ?_, ?_⟩
        · exact (((hR.set_ 0 _).set_ 1 _).set_ 2 _).set_ 3 _
        · intro W' hW'
          simp [results, Try.results35, go_sem, hW']
        · rw [HD.out.play, Hkn.out, played]
          obtain ⟨e1, e2⟩ := hsh
          unfold shownV
          simp only at e1 e2 ⊢
          rw [← e2, ← e1]
        · rw [A2.out, Hkn.out]
          show RowI _ _ _ (acc ++ [])
          rw [List.append_nil]
          exact hI
        · exact (((hbr.setCell (by simp) _).setCell (by simp) _).setCell (by simp) _).setCell (by simp) _
      · skip
        have k2 := (hC.set_ 2 (.int .i64 (M + (at_ - u)))).cell
        have f2 := (hC.set_ 2 (.int .i64 (M + (at_ - u)))).frozen
        go_upto_region 13 with (fail)
        refine forget (F := Mid w l at_ k ⟨true, true, s, m, p⟩ (M + (at_ - u)) P v) ⟨?_, ?_, ?_, ?_⟩ ?_
        · repeat (first | exact hR | refine Blk.far ?_ (by simp <;> omega) _)
        · exact (hC.set_ 2 _)
        · repeat (first | exact hbr | refine Below.setCell ?_ (by simp <;> omega) _)
        · obtain ⟨acc, a1, a2, a3⟩ := HD.out.laps
          refine ⟨acc, a1, a2, ?_⟩
          repeat (first | exact a3 | refine own_set ?_ HD.out.ne _)
        have hsh : Sh ⟨true, true, s, m, p⟩ at_ (M + (at_ - u)) P := by
          obtain ⟨e1, e2⟩ := HD.out.shows
          constructor <;> simp [Ch.now] at e1 e2 ⊢ <;> omega
        clear cC fC hC hR hbr zC zR sw k2 f2
        have hbd := sh_bd hsh (Ch.fine_mono HD.out.fine (by omega))
        obtain ⟨m1', m2', p1', p2'⟩ := hbd
        generalize (M + (at_ - u)) = M1 at *
        rintro X ⟨hR, hC, hbr, hl⟩
        simp only at hC
        have cC := hC.cell
        have fC := hC.frozen
        have zC := hC.lt
        have zR := hR.lt
        have sw := hbr.size
        have kn : ((k:Int) == (k:Int)) = true := by simp
        obtain ⟨acc, a1, a2, a3⟩ := hl
        obtain ⟨A', c', hv⟩ := own_slice a3
        have Hv := Lib.hid hv
        have A2 := Lib.hid a2
        clear hv a2
        have kR := hR.cell
        have fR := hR.frozen
        go_wp2_with fail
        rw [Hv.out] at a3 ⊢
        have hown : World.ownsRow _ (w.heap.size + 1) 3 1 (.slice A' acc.length c') acc.length (acc.map (Value.int .i64)) := own4 a3 (own_res a3) M1 P (.bool true) (.bool true)
        have hI := own_rowI hown
        refine bodyPost_cell w.heap.size 38 #[.bool true, .bool true, .int .i64 M1, .int .i64 P] (.tuple #[K4 true true M1 P, .slice A' acc.length c']) ?_ ?_ ⟨A', acc.length, c', ?_, by omega, ?_, ?_⟩
        · exact (((hR.set_ 0 _).set_ 1 _).set_ 2 _).set_ 3 _
        · intro W' hW'
          simp [results, Try.results35, go_sem, hW']
        · rw [HD.out.play, Hkn.out, played]
          obtain ⟨e1, e2⟩ := hsh
          unfold shownV
          simp only at e1 e2 ⊢
          rw [← e2, ← e1]
        · rw [A2.out, Hkn.out]
          show RowI _ _ _ (acc ++ [])
          rw [List.append_nil]
          exact hI
        · exact (((hbr.setCell (by simp) _).setCell (by simp) _).setCell (by simp) _).setCell (by simp) _
end Go.Proofs.Ytjlnkghjiaglmaa
