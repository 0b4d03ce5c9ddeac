/-
  The contracts of Laps of package dial.
  Conditions: the slice that comes in starts at the head of a block.
-/
import Derived.Test.YtjlnkghjiaglmaaPlay2
import Derived.Test.YtjlnkghjiaglmaaSame
import Derived.Laws.AppendOwn
namespace Go.Proofs.Ytjlnkghjiaglmaa
open Go.RowKit

theorem Try.info3 : (Try.prog.info? 3).map (fun i => (i.zero, i.size, i.bytes)) = some (some (.int .i64 0), 1, 8) := by kernel_rfl

/-- The laps that are held behind some pushes. -/
def lapsL : Ch → List (Int × Int) → List Int
  | _, [] => []
  | c, x :: l => if c.lap x.2 = true then (c.push x.1 x.2).p :: lapsL (c.push x.1 x.2) l else lapsL (c.push x.1 x.2) l
theorem lapsL_step {t b : Int} {c : Ch} {l : List (Int × Int)} {k : Nat} (h : l[k]? = some (t, b)) :
    lapsL c (l.drop k) = if c.lap b = true then (c.push t b).p :: lapsL (c.push t b) (l.drop (k + 1)) else lapsL (c.push t b) (l.drop (k + 1)) := by
  have hk : k < l.length := (List.getElem?_eq_some_iff.1 h).1
  have e : l[k] = (t, b) := (List.getElem?_eq_some_iff.1 h).2
  rw [List.drop_eq_getElem_cons hk, lapsL, e]

theorem own_rowI {w : World} {base : Nat} {A : Option Addr} {n m c : Nat} {l : List Int} (h : w.ownsRow base 3 1 (.slice A m c) n (l.map (Value.int .i64))) : RowI w A m l := by
  obtain ⟨hl, h⟩ := h
  simp only [List.length_map, Nat.mul_one] at hl
  rcases h with ⟨h1, h2⟩ | ⟨g, cap, cur, h1, h2, h3, h4, h5, h6, h7⟩
  · injection h1 with e1 e2 e3
    subst e1 e2
    exact ⟨by omega, fun h => absurd h (by omega)⟩
  · injection h1 with e1 e2 e3
    subst e1 e2
    refine ⟨hl, fun _ => ⟨g, rfl, (Array.getElem?_eq_some_iff.1 h3).1, fun k v hk => ?_⟩⟩
    have hkl : k < l.length := (List.getElem?_eq_some_iff.1 hk).1
    rw [cell_of_row w g k cur 3 (0, 0) h3]
    have := congrArg (fun x => x[k]?) h7
    simp only [List.getElem?_map, hk, Option.map_some, List.getElem?_take] at this
    rw [if_pos (by omega)] at this
    rw [← Array.getElem?_toList]
    exact this
/-- What an owned value looks like. -/
theorem own_slice {w : World} {base E s : Nat} {v : Value} {n : Nat} {xs : List Value} (h : w.ownsRow base E s v n xs) : ∃ A c, v = .slice A n c := by
  rcases h.2 with ⟨h1, h2⟩ | ⟨g, cap, cur, h1, _⟩
  · exact ⟨none, 0, by rw [h1, h2]⟩
  · exact ⟨_, _, h1⟩
theorem own_ne {w : World} {base E s g : Nat} {v : Value} {n : Nat} {xs : List Value} (h : w.ownsRow base E s v n xs) (hg : g < base) : v.ownBlock = none ∨ v.ownBlock ≠ some g := by
  cases hv : v.ownBlock with
  | none => exact .inl rfl
  | some k => right; intro e; have := (h.lt k hv).1; injection e with e; omega

/-- How Laps ends. -/
def LapsR (w : World) (l : List Int) (e : Ending) (w' : World) : Prop := ∃ A m c, e = .returned (.tuple #[.slice A m c, .int .i64 0]) ∧ m ≤ 1000 ∧ RowI w' A m l ∧ Below w.heap.size w w'
/-- What Laps has kept. -/
def LapsK (w0 : World) (B : Nat) (l : List (Int × Int)) (k : Nat) (c : Ch) (v : Value) (wr : World) : Prop :=
  ∃ acc : List Int, acc.length ≤ k ∧ lapsL Ch.zero l = acc ++ lapsL c (l.drop k) ∧ wr.ownsRow B 3 1 v acc.length (acc.map (Value.int .i64)) ∧ Below w0.heap.size w0 wr

theorem Laps_no (A : Option Addr) (n cap : Nat) (l : List (Int × Int)) (w : World) (hr : Row2 w A n l) (hn : n ≤ 140737488351232) (hv : (ordL 0 l && decide (n ≤ 1000)) = false) :
    Calls Try.prog 33 #[.slice A n cap] w fun e w' => e = .returned (.tuple #[.slice none 0 0, .int .i64 1]) ∧ Below w.heap.size w w' := by
  have M := Lib.hid (pushes_any A n cap l w hr hn)
  rw [hv] at M
  go_enter Try.func33, Try.ntmps33
  go_wp2_with fail
  refine M.out.mono ?_; rintro e w1 ⟨rfl, hb1⟩
  go_wp2_with fail
  go_ret2
  exact ⟨rfl, hb1⟩

set_option maxHeartbeats 1000000 in
theorem Laps_yes (A : Option Addr) (n cap : Nat) (l : List (Int × Int)) (w : World) (hr : Row2 w A n l) (hn : n ≤ 1000) (hv : ordL 0 l = true) :
    Calls Try.prog 33 #[.slice A n cap] w (LapsR w (lapsL Ch.zero l)) := by
  have M := Lib.hid (pushes_any A n cap l w hr (by omega))
  rw [hv, decide_eq_true hn] at M
  have HO := Lib.hid hv
  clear hv
  obtain ⟨i0, hi, hz0, hz1, hz2⟩ := info_parts Try.info3
  have Hi := Lib.hid hi
  have Hz0 := Lib.hid hz0
  have Hz1 := Lib.hid hz1
  have Hz2 := Lib.hid hz2
  clear hi hz0 hz1 hz2
  go_enter Try.func33, Try.ntmps33
  go_wp2_with fail
  refine M.out.mono ?_; rintro e w1 ⟨rfl, hb1⟩
  go_wp2_with fail
  have hz1 := hb1.size
  go_loopw [5, 15] (fun v i wr => ∃ (k : Nat) (c : Ch) (u : Int), k ≤ n ∧ i = .int .i64 k ∧ 0 ≤ u ∧ u ≤ 1000000000 ∧ c.fine u ∧ Hid (ordL u (l.drop k) = true) ∧ Blk wr w1.heap.size 85 c.cells ∧ LapsK w (w1.heap.size + 1) l k c v wr) (fun _ i _ => n - (intOf i).toNat)
  case atStart => exact ⟨0, Ch.zero, 0, Nat.zero_le _, rfl, Int.le_refl _, by omega, Ch.fine_zero, HO, Blk.new w1 85 _, [], by simp, rfl, World.ownsRow_nil _ _ _ _, hb1.alloc hz1 _⟩
  case round =>
    obtain ⟨k, c, u, hk, rfl, hu0, hu1, hfi, hO, hC, acc, hal, hac, hown, hbr⟩ := hrel
    have Hac := Lib.hid hac
    clear hac
    have hz2 := hC.lt
    by_cases hlt : k < n
    · obtain ⟨g, t, b, rfl, hg, hx, hc1, hc2⟩ := (hr.later hbr).at_ hlt
      have hO2 := hO.out
      rw [ordL_step hx, Bool.and_eq_true, decide_eq_true_eq] at hO2
      obtain ⟨⟨b1, b3, ut, t9⟩, hO3⟩ := hO2
      have HO3 := Lib.hid hO3
      have hX := Lib.hid hx
      clear hx hO3
      have hCa := hC.alloc (.cells #[.int .i64 t, .int .i64 b] 36)
      have M2 := fun W (h : Blk W w1.heap.size 85 c.cells) => Lib.hid (push_any _ c t b u W h hfi ut hu0 t9 b1 b3)
      have M3 := Lib.hid (M2 _ hCa)
      clear M2
      have hf2 := Ch.fine_push b hfi ut
      cases hlap : c.lap b with
      | true =>
        have Hl := Lib.hid hlap
        rw [hlap] at M3
        clear hlap
        go_wp2_with fail
        refine M3.out.out.mono ?_; rintro e w2 ⟨rfl, hC2, hg2⟩
        have hown2 := (hown.alloc (.cells #[.int .i64 t, .int .i64 b] 36)).kept hg2 (own_ne hown (by omega))
        have kC := hC2.cell
        have s2 := hg2.size
        have lC := hC2.lt
        simp at s2
        have hb2 := (hbr.alloc (by omega) (.cells #[.int .i64 t, .int .i64 b] 36)).trans (below_of_only hg2 (by omega) (by simp; omega))
        generalize hp : c.push t b = c' at *
        have Hp := Lib.hid hp
        clear hp
        go_wp2_with (at_builtin; refine wpList_append_own _ rfl (.tmp 22) (.tmp 27) 44 rfl (w1.heap.size + 1) 3 i0 (.int .i64 0) 1 8 Try.underlying44 Hi.out Hz0.out Hz1.out Hz2.out rfl (by decide) _ _ _ rfl (hown2.alloc _) ⟨w2.heap.size, 0, none⟩ 1 1 [.int .i64 c'.p] rfl rfl ?c1 ?c2 ?c3 ?c4 ?c5 ?_)
        case c1 => exact cell_one_new _ _ _
        case c2 => simp [Value.oneCell']
        case c3 => unfold maxLen; omega
        case c4 => omega
        case c5 => simp; omega
        intro v' w3 hown3 hgrow3 _
        have hC3 := (hC2.alloc (.cells #[.int .i64 c'.p] 3)).grown hgrow3 (by rcases own_ne (g := w1.heap.size) hown2 (by omega) with h | h; rw [h]; simp; exact fun e => h e.symm)
        have hb3 := (hb2.alloc (by omega) (.cells #[.int .i64 c'.p] 3)).grown hgrow3 (by simp; omega) (fun k hk => by have := (hown2.lt k hk).1; omega)
        clear hown hown2 hgrow3 kC hb2 hC2 hg2
        go_wp2_with fail
        go_roundw
        case rel =>
          refine ⟨k + 1, c', t, by omega, by go_num, by omega, t9, hf2, HO3, hC3, acc ++ [c'.p], by simp; omega, ?_, by simpa using hown3, hb3⟩
          rw [Hac.out, lapsL_step hX.out, if_pos Hl.out, Hp.out]
          simp
        case measure => simp [intOf]; omega
      | false =>
        have Hl := Lib.hid hlap
        rw [hlap] at M3
        clear hlap
        go_wp2_with fail
        refine M3.out.out.mono ?_; rintro e w2 ⟨rfl, hC2, hg2⟩
        have hown2 := (hown.alloc (.cells #[.int .i64 t, .int .i64 b] 36)).kept hg2 (own_ne hown (by omega))
        have hb2 := (hbr.alloc (by omega) (.cells #[.int .i64 t, .int .i64 b] 36)).trans (below_of_only hg2 (by omega) (by simp; omega))
        clear hown hg2
        go_wp2_with fail
        go_roundw
        case rel =>
          refine ⟨k + 1, c.push t b, t, by omega, by go_num, by omega, t9, hf2, HO3, hC2, acc, by omega, ?_, hown2, hb2⟩
          rw [Hac.out, lapsL_step hX.out, if_neg (by rw [Hl.out]; exact Bool.false_ne_true)]
        case measure => simp [intOf]; omega
    · have hkn : l.drop k = [] := List.drop_of_length_le (by rw [hr.1]; omega)
      obtain ⟨A', c', hv⟩ := own_slice hown
      have Hv := Lib.hid hv
      clear hv
      have Hkn := Lib.hid hkn
      clear hkn
      go_wp2_with fail
      go_ret2
      rw [Hv.out] at hown ⊢
      have hR := own_rowI hown
      rw [Hac.out, Hkn.out]
      refine ⟨A', acc.length, c', rfl, by omega, ?_, hbr⟩
      show RowI _ _ _ (acc ++ [])
      rw [List.append_nil]
      exact hR
end Go.Proofs.Ytjlnkghjiaglmaa
