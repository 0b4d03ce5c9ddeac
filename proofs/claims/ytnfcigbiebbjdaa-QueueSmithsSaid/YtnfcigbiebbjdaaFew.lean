/-
  Copies of the first elements: of integers, of jobs.
  Conditions: none on where the slices start.
-/
import Derived.Test.YtnfcigbiebbjdaaOrders
namespace Go.Proofs.Ytnfcigbiebbjdaa
open Go.RowKit

def CutR (w : World) (l : List Int) (e : Ending) (w' : World) : Prop := ∃ v, e = .returned v ∧ w'.ownsRow w.heap.size 3 1 v l.length (l.map (Value.int .i64)) ∧ Below w.heap.size w w'
theorem CutR.of {w w1 : World} {l : List Int} {k : Nat} {v : Value} (hl : l.length = k) (h1 : w1.ownsRow w.heap.size 3 1 v k (l.map (Value.int .i64))) (h2 : (w.alloc (.cells #[] 3)).grownBy w1 (some w.heap.size)) : CutR w l (.returned v) w1 :=
  ⟨v, rfl, by rw [hl]; exact h1, ((Below.refl _ _).alloc (Nat.le_refl _) _).grown h2 (by simp) (fun q hq => by simp at hq; omega)⟩
set_option maxHeartbeats 2000000 in
theorem cut_any (A : Option Addr) (n c q : Nat) (l : List Int) (w : World) (rA : RowI w A n l) (hc : n ≤ c) (hnil : A = none → c = 0) (hq : q ≤ 100) :
    Calls Try.prog 40 #[.slice A n c, .int .i64 q] w (CutR w (l.take q)) := by
  have hb0 : Below w.heap.size w (w.alloc (.cells #[] 3)) := (Below.refl _ _).alloc (Nat.le_refl _) _
  have hmade : (w.alloc (.cells #[] 3)).ownsRow w.heap.size 3 1 (.slice (some ⟨w.heap.size, 0, none⟩) 0 0) 0 (([] : List Int).map (Value.int .i64)) := World.ownsRow_made (base := w.heap.size) (e := 3) (size := 1) w #[] 0 (by simp) (by unfold maxLen; omega) (by simp)
  have hll := Lib.hid rA.1
  have rA1 := rA.later hb0
  clear rA hb0
  go_enter Try.func40, Try.ntmps40
  rcases Nat.lt_trichotomy n q with h | h | h
  · skip
    have HC : Hid ((l.take q).length = n) := by show _ = _; rw [List.length_take]; have := hll.out; omega
    rcases A with _ | a
    · have h0 := hnil rfl
      have hn0 : n = 0 := by omega
      subst h0 hn0
      have hT := rA1.take (m := 0) (Nat.le_refl _)
      have hi : (0 : Int) < (q : Int) := by omega
      go_wp2_with (at_builtin; refine app_ints _ rfl (.tmp 5) (.tmp 11) rfl w.heap.size _ 0 [] rfl hmade none 0 0 (l.take 0) rfl hT (by omega) (by simp) ?_)
      intro v w1 hown hgr
      have hnl : l = [] := List.eq_nil_of_length_eq_zero hll.out
      have hown2 : w1.ownsRow w.heap.size 3 1 v 0 ((l.take q).map (Value.int .i64)) := by rw [hnl]; simpa using hown
      have hfin := CutR.of HC.out hown2 (by simpa [Value.ownBlock] using hgr)
      have HFin := Lib.hid hfin
      clear hfin hown hown2 hgr
      go_wp2_with fail
      go_ret
      exact HFin.out
    · have hT := rA1.take (m := n) (by omega)
      have hKc : n ≤ c := by omega
      have hKci : (n : Int) ≤ (c : Int) := by omega
      have hi : (n : Int) < (q : Int) := by omega
      have e1 : Hid (l.take q = l.take n) := by
        show _ = _
        rw [List.take_of_length_le (by have := hll.out; omega), List.take_of_length_le (by have := hll.out; omega)]
      go_wp2_with (at_builtin; refine app_ints _ rfl (.tmp 5) (.tmp 11) rfl w.heap.size _ 0 [] rfl hmade (some a) n c (l.take n) rfl hT (by omega) (by simp) ?_)
      all_goals
        intro v w1 hown hgr
        have hown2 : w1.ownsRow w.heap.size 3 1 v n ((l.take q).map (Value.int .i64)) := by rw [e1.out]; simpa using hown
        have hfin := CutR.of HC.out hown2 (by simpa [Value.ownBlock] using hgr)
        have HFin := Lib.hid hfin
        clear hfin hown hown2 hgr
        go_wp2_with fail
        go_ret
        exact HFin.out
  · subst h
    have HC : Hid ((l.take n).length = n) := by show _ = _; rw [List.length_take]; have := hll.out; omega
    rcases A with _ | a
    · have h0 := hnil rfl
      have hn0 : n = 0 := by omega
      subst h0 hn0
      have hT := rA1.take (m := 0) (Nat.le_refl _)
      skip
      go_wp2_with (at_builtin; refine app_ints _ rfl (.tmp 5) (.tmp 11) rfl w.heap.size _ 0 [] rfl hmade none 0 0 (l.take 0) rfl hT (by omega) (by simp) ?_)
      intro v w1 hown hgr
      have hnl : l = [] := List.eq_nil_of_length_eq_zero hll.out
      have hown2 : w1.ownsRow w.heap.size 3 1 v 0 ((l.take 0).map (Value.int .i64)) := by rw [hnl]; simpa using hown
      have hfin := CutR.of HC.out hown2 (by simpa [Value.ownBlock] using hgr)
      have HFin := Lib.hid hfin
      clear hfin hown hown2 hgr
      go_wp2_with fail
      go_ret
      exact HFin.out
    · have hT := rA1.take (m := n) (by omega)
      have hKc : n ≤ c := by omega
      have hKci : (n : Int) ≤ (c : Int) := by omega
      skip
      go_wp2_with (at_builtin; refine app_ints _ rfl (.tmp 5) (.tmp 11) rfl w.heap.size _ 0 [] rfl hmade (some a) n c (l.take n) rfl hT (by omega) (by simp) ?_)
      all_goals
        intro v w1 hown hgr
        have hown2 : w1.ownsRow w.heap.size 3 1 v n ((l.take n).map (Value.int .i64)) := by simpa using hown
        have hfin := CutR.of HC.out hown2 (by simpa [Value.ownBlock] using hgr)
        have HFin := Lib.hid hfin
        clear hfin hown hown2 hgr
        go_wp2_with fail
        go_ret
        exact HFin.out
  · skip
    have HC : Hid ((l.take q).length = q) := by show _ = _; rw [List.length_take]; have := hll.out; omega
    rcases A with _ | a
    · have h0 := hnil rfl
      exfalso; omega
    · have hT := rA1.take (m := q) (by omega)
      have hKc : q ≤ c := by omega
      have hKci : (q : Int) ≤ (c : Int) := by omega
      have hi : (q : Int) < (n : Int) := by omega
      go_wp2_with (at_builtin; refine app_ints _ rfl (.tmp 5) (.tmp 11) rfl w.heap.size _ 0 [] rfl hmade (some a) q c (l.take q) rfl hT (by omega) (by simp) ?_)
      all_goals
        intro v w1 hown hgr
        have hown2 : w1.ownsRow w.heap.size 3 1 v q ((l.take q).map (Value.int .i64)) := by simpa using hown
        have hfin := CutR.of HC.out hown2 (by simpa [Value.ownBlock] using hgr)
        have HFin := Lib.hid hfin
        clear hfin hown hown2 hgr
        go_wp2_with fail
        go_ret
        exact HFin.out
end Go.Proofs.Ytnfcigbiebbjdaa
