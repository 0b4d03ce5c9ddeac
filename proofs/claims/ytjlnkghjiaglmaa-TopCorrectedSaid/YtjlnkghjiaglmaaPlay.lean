/-
  Contracts of pushes, Play and Laps of package dial.
  Conditions: the slice that comes in starts at the head of a block.
-/
import Derived.Test.YtjlnkghjiaglmaaChrono2
namespace Go.Proofs.Ytjlnkghjiaglmaa
open Go.RowKit

/-- A slice of pushes that reads as a list. -/
def Row2 (w : World) (A : Option Addr) (n : Nat) (l : List (Int × Int)) : Prop :=
  l.length = n ∧ (0 < n → ∃ g, A = some ⟨g, 0, none⟩ ∧ g < w.heap.size ∧ ∀ k t b, l[k]? = some (t, b) → w.cell? ⟨g, k * 2, none⟩ = some (.int .i64 t) ∧ w.cell? ⟨g, k * 2 + 1, none⟩ = some (.int .i64 b))
theorem Row2.later {w w' : World} {A : Option Addr} {n : Nat} {l : List (Int × Int)} (h : Row2 w A n l) (hb : Below w.heap.size w w') : Row2 w' A n l :=
  ⟨h.1, fun hn => by
    obtain ⟨g, e, hg, hc⟩ := h.2 hn
    exact ⟨g, e, Nat.lt_of_lt_of_le hg hb.size, fun k t b hk => ⟨(hb.cell (p := ⟨g, k * 2, none⟩) hg).trans (hc k t b hk).1, (hb.cell (p := ⟨g, k * 2 + 1, none⟩) hg).trans (hc k t b hk).2⟩⟩⟩
theorem Row2.at_ {w : World} {A : Option Addr} {n k : Nat} {l : List (Int × Int)} (h : Row2 w A n l) (hk : k < n) : ∃ g t b, A = some ⟨g, 0, none⟩ ∧ g < w.heap.size ∧ l[k]? = some (t, b) ∧
    w.cell? ⟨g, k * 2, none⟩ = some (.int .i64 t) ∧ w.cell? ⟨g, k * 2 + 1, none⟩ = some (.int .i64 b) := by
  obtain ⟨g, e, hg, hc⟩ := h.2 (by omega)
  have hl : k < l.length := by have := h.1; omega
  obtain ⟨h1, h2⟩ := hc k l[k].1 l[k].2 (List.getElem?_eq_getElem hl)
  exact ⟨g, _, _, e, hg, List.getElem?_eq_getElem hl, h1, h2⟩

/-- Are pushes valid from a time on? -/
def ordL : Int → List (Int × Int) → Bool
  | _, [] => true
  | now, x :: l => decide (1 ≤ x.2 ∧ x.2 ≤ 3 ∧ now ≤ x.1 ∧ x.1 ≤ 1000000000) && ordL x.1 l
theorem ordL_step {l : List (Int × Int)} {k : Nat} {t b now : Int} (h : l[k]? = some (t, b)) :
    ordL now (l.drop k) = (decide (1 ≤ b ∧ b ≤ 3 ∧ now ≤ t ∧ t ≤ 1000000000) && ordL t (l.drop (k + 1))) := by
  have hk : k < l.length := (List.getElem?_eq_some_iff.1 h).1
  have e : l[k] = (t, b) := (List.getElem?_eq_some_iff.1 h).2
  rw [List.drop_eq_getElem_cons hk, ordL, e]
theorem ordL_no {l : List (Int × Int)} {k : Nat} {t b now : Int} (h : l[k]? = some (t, b)) (hn : ¬ (1 ≤ b ∧ b ≤ 3 ∧ now ≤ t ∧ t ≤ 1000000000)) : ordL now (l.drop k) = false := by
  rw [ordL_step h, decide_eq_false hn, Bool.false_and]
theorem ordL_yes {l : List (Int × Int)} {k : Nat} {t b now : Int} (h : l[k]? = some (t, b)) (hn : 1 ≤ b ∧ b ≤ 3 ∧ now ≤ t ∧ t ≤ 1000000000) : ordL now (l.drop k) = ordL t (l.drop (k + 1)) := by
  rw [ordL_step h, decide_eq_true hn, Bool.true_and]

set_option maxHeartbeats 400000 in
theorem pushes_any (A : Option Addr) (n cap : Nat) (l : List (Int × Int)) (w : World) (hr : Row2 w A n l) (hn : n ≤ 140737488351232) :
    Calls Try.prog 65 #[.slice A n cap] w fun e w' => e = .returned (.bool (ordL 0 l && decide (n ≤ 1000))) ∧ Below w.heap.size w w' := by
  go_enter Try.func65, Try.ntmps65
  go_wp2_with fail
  go_loopw [3, 8] (fun s i wr => ∃ (k : Nat) (now : Int), k ≤ n ∧ i = .int .i64 k ∧ s = .int .i64 now ∧ Hid (ordL 0 l = ordL now (l.drop k)) ∧ Below w.heap.size w wr) (fun _ i _ => n - (intOf i).toNat)
  case atStart => exact ⟨0, 0, Nat.zero_le _, rfl, rfl, rfl, Below.refl _ _⟩
  case round =>
    obtain ⟨k, now, hk, rfl, rfl, ho, hb⟩ := hrel
    by_cases hlt : k < n
    · obtain ⟨g, t, b, rfl, hg, hx, hc1, hc2⟩ := (hr.later hb).at_ hlt
      have hX := Lib.hid hx
      clear hx
      have hz := hb.size
      by_cases hv : 1 ≤ b ∧ b ≤ 3 ∧ now ≤ t ∧ t ≤ 1000000000
      · have hO := ordL_yes hX.out hv
        have HO := Lib.hid (Eq.trans ho.out hO)
        clear hO ho
        obtain ⟨v1, v2, v3, v4⟩ := hv
        go_wp2_with fail
        go_roundw
        case rel => exact ⟨k + 1, t, by omega, by go_num, rfl, HO.out, hb.alloc (by omega) _⟩
        case measure => simp [intOf]; omega
      · have hO := ordL_no hX.out hv
        have HO := Lib.hid (Eq.trans ho.out hO)
        clear hO ho
        have hV := Lib.hid hv
        clear hv
        go_wp2_with fail
        all_goals first
          | (go_ret; exact ⟨by rw [HO.out]; rfl, hb.alloc (by omega) _⟩)
          | (exfalso; exact hV.out ⟨by omega, by omega, by omega, by omega⟩)
    · have hkn : k = n := by omega
      have HO := Lib.hid (show ordL 0 l = true by rw [ho.out, List.drop_of_length_le (by rw [hr.1]; omega)]; rfl)
      clear ho
      go_wp2_with fail
      go_ret
      exact ⟨ret_bool (by rw [HO.out, Bool.true_and]; simp; omega), hb⟩
end Go.Proofs.Ytjlnkghjiaglmaa
