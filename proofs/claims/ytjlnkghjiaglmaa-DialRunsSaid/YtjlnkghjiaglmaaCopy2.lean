/-
  The contract of the law's pushes: a copy of the first elements.
  Conditions: none on where the slice starts.
-/
import Derived.Test.YtjlnkghjiaglmaaLaps
import Derived.Deep.AppendLies
namespace Go.Proofs.Ytjlnkghjiaglmaa
open Go.RowKit

theorem Try.info36 : (Try.prog.info? 36).map (fun i => (i.zero, i.size, i.bytes)) = some (some (.agg #[.int .i64 0, .int .i64 0]), 2, 16) := by kernel_rfl

theorem add_block (a : Addr) (k : Nat) : (a.add k).block = a.block := by unfold Addr.add; split <;> rfl
/-- A row of pairs, wherever it starts. -/
def RowA (w : World) (A : Option Addr) (n : Nat) (l : List (Int × Int)) : Prop :=
  l.length = n ∧ (0 < n → ∃ a, A = some a ∧ a.block < w.heap.size ∧ ∀ k t b, l[k]? = some (t, b) → w.cell? (a.add (k * 2)) = some (.int .i64 t) ∧ w.cell? (a.add (k * 2 + 1)) = some (.int .i64 b))
theorem RowA.later {w w' : World} {A : Option Addr} {n : Nat} {l : List (Int × Int)} (h : RowA w A n l) (hb : Below w.heap.size w w') : RowA w' A n l :=
  ⟨h.1, fun hn => by
    obtain ⟨a, e, hg, hc⟩ := h.2 hn
    exact ⟨a, e, Nat.lt_of_lt_of_le hg hb.size, fun k t b hk => ⟨(hb.cell (p := a.add (k * 2)) (by rw [add_block]; exact hg)).trans (hc k t b hk).1, (hb.cell (p := a.add (k * 2 + 1)) (by rw [add_block]; exact hg)).trans (hc k t b hk).2⟩⟩⟩
/-- The cells of a row of pairs. -/
def flat : List (Int × Int) → List Value
  | [] => []
  | x :: l => .int .i64 x.1 :: .int .i64 x.2 :: flat l
theorem flat_length : ∀ l : List (Int × Int), (flat l).length = l.length * 2
  | [] => rfl
  | x :: l => by simp [flat, flat_length l]; omega
theorem flat_at : ∀ {l : List (Int × Int)} {k : Nat} {t b : Int}, l[k]? = some (t, b) → (flat l)[k * 2]? = some (.int .i64 t) ∧ (flat l)[k * 2 + 1]? = some (.int .i64 b)
  | [], k, t, b, h => by simp at h
  | x :: l, 0, t, b, h => by
    simp at h
    subst h
    exact ⟨rfl, rfl⟩
  | x :: l, k + 1, t, b, h => by
    have := flat_at (l := l) (k := k) (t := t) (b := b) (by simpa using h)
    have e : (k + 1) * 2 = k * 2 + 1 + 1 := by omega
    rw [e]
    simpa [flat] using this
theorem flat_news {F : Nat → Option Value} : ∀ {l : List (Int × Int)} {s : Nat}, (∀ k t b, l[k]? = some (t, b) → F (s + k * 2) = some (.int .i64 t) ∧ F (s + k * 2 + 1) = some (.int .i64 b)) →
    ∀ j u, (flat l)[j]? = some u → F (s + j) = some u
  | [], s, _, j, u, h => by simp [flat] at h
  | x :: l, s, hF, 0, u, h => by
    have := (hF 0 x.1 x.2 rfl).1
    simp [flat] at h
    rw [← h]
    simpa using this
  | x :: l, s, hF, 1, u, h => by
    have := (hF 0 x.1 x.2 rfl).2
    simp [flat] at h
    rw [← h]
    simpa using this
  | x :: l, s, hF, j + 2, u, h => by
    have := flat_news (F := F) (l := l) (s := s + 2) (fun k t b hk => by
      have := hF (k + 1) t b (by simpa using hk)
      have e : s + 2 + k * 2 = s + (k + 1) * 2 := by omega
      rw [e]
      exact this) j u (by simpa [flat] using h)
    have e : s + (j + 2) = s + 2 + j := by omega
    rw [e]
    exact this
theorem flat_one : ∀ {l : List (Int × Int)} (u : Value), u ∈ flat l → u.oneCell' = true
  | [], u, h => by simp [flat] at h
  | x :: l, u, h => by
    simp [flat] at h
    rcases h with rfl | rfl | h
    · rfl
    · rfl
    · exact flat_one u h
theorem flat_append : ∀ (l m : List (Int × Int)), flat (l ++ m) = flat l ++ flat m
  | [], m => rfl
  | x :: l, m => by simp [flat, flat_append l m]
theorem own_row2 {w : World} {base : Nat} {A : Option Addr} {n m c : Nat} {l : List (Int × Int)} (h : w.ownsRow base 36 2 (.slice A m c) n (flat l)) : Row2 w A m l := by
  obtain ⟨hl, h⟩ := h
  rw [flat_length] at hl
  rcases h with ⟨h1, h2⟩ | ⟨g, cap, cur, h1, h2, h3, h4, h5, h6, h7⟩
  · injection h1 with e1 e2 e3
    subst e1 e2
    exact ⟨by omega, fun h => absurd h (by omega)⟩
  · injection h1 with e1 e2 e3
    subst e1 e2
    refine ⟨by omega, fun _ => ⟨g, rfl, (Array.getElem?_eq_some_iff.1 h3).1, fun k t b hk => ?_⟩⟩
    have hkl : k < l.length := (List.getElem?_eq_some_iff.1 hk).1
    rw [cell_of_row w g (k * 2) cur 36 (0, 0) h3, cell_of_row w g (k * 2 + 1) cur 36 (0, 0) h3]
    obtain ⟨f1, f2⟩ := flat_at hk
    rw [← h7, List.getElem?_take, if_pos (by omega), Array.getElem?_toList] at f1 f2
    exact ⟨f1, f2⟩

/-- What is read out of the copied row, as one list. -/
theorem news_of {w : World} {a : Addr} {n m : Nat} {l : List (Int × Int)} (o : Obj) (hr : RowA w (some a) n l) (hn : 0 < n) : ∀ j u, (flat (l.take m))[j]? = some u → (w.alloc o).cell? (a.add j) = some u := by
  obtain ⟨a', e, ha, hc⟩ := hr.2 hn
  cases e
  intro j u h
  have := flat_news (F := fun i => (w.alloc o).cell? (a.add i)) (l := l.take m) (s := 0) (fun k t b hk => by
    have hk' : l[k]? = some (t, b) := by
      rw [List.getElem?_take] at hk
      split at hk
      · exact hk
      · simp at hk
    have := hc k t b hk'
    have hb : Below w.heap.size w (w.alloc o) := (Below.refl _ _).alloc (Nat.le_refl _) o
    exact ⟨by rw [Nat.zero_add]; exact (hb.cell (p := a.add (k * 2)) (by rw [add_block]; exact ha)).trans this.1,
      by rw [Nat.zero_add]; exact (hb.cell (p := a.add (k * 2 + 1)) (by rw [add_block]; exact ha)).trans this.2⟩) j u h
  simpa using this

/-- How many elements are copied. -/
def fewL (n : Nat) : Nat := if n ≤ 1000 then min n 60 else 1001
theorem fewL_le (n : Nat) : fewL n ≤ n ∧ fewL n ≤ 1001 := by unfold fewL; split <;> omega
def CopyR (w : World) (l : List (Int × Int)) (m : Nat) (e : Ending) (w' : World) : Prop := ∃ A c, e = .returned (.slice A m c) ∧ Row2 w' A m l ∧ Below w.heap.size w w'

set_option maxHeartbeats 1000000 in
theorem copy_any (A : Option Addr) (n cap : Nat) (l : List (Int × Int)) (w : World) (hr : RowA w A n l) (hc : n ≤ cap) (hm : cap ≤ maxLen) (hnil : A = none → cap = 0) :
    Calls Try.prog 32 #[.slice A n cap] w (CopyR w (l.take (fewL n)) (fewL n)) := by
  obtain ⟨i0, hi, hz0, hz1, hz2⟩ := info_parts Try.info36
  have Hi := Lib.hid hi
  have Hz0 := Lib.hid hz0
  have Hz1 := Lib.hid hz1
  have Hz2 := Lib.hid hz2
  clear hi hz0 hz1 hz2
  unfold maxLen at hm
  go_enter Try.func32, Try.ntmps32
  by_cases h1 : n ≤ 1000
  · rcases Nat.lt_trichotomy n 60 with h2 | h2 | h2
    · by_cases h0 : n = 0
      · have hf : fewL n = 0 := by unfold fewL; rw [if_pos h1]; omega
        rw [hf]
        have hb : Below w.heap.size w (w.alloc (.cells #[] 36)) := (Below.refl _ _).alloc (Nat.le_refl _) _
        subst h0
        have hmade : (w.alloc (.cells #[] 36)).ownsRow w.heap.size 36 2 (.slice (some ⟨w.heap.size, 0, none⟩) 0 0) 0 [] := World.ownsRow_made (base := w.heap.size) (e := 36) (size := 2) w #[] 0 (by simp) (by unfold maxLen; omega) (by simp)
        go_wp2_with (at_builtin; refine wpList_append_fits_any _ rfl (.tmp 11) (.tmp 16) 33 rfl w.heap.size 36 i0 2 Try.underlying33 Hi.out Hz1.out w.heap.size 0 0 [] rfl hmade A 0 cap [] rfl rfl (fun h => ⟨rfl, hnil h⟩) (by simp) (by simp) (by omega) ?_)
        intro w1 hown hgrow
        have hb1 := hb.grown hgrow (by simp) (fun k hk => (hmade.lt k hk).1)
        have hrow : Row2 w1 (some ⟨w.heap.size, 0, none⟩) 0 [] := ⟨rfl, fun h => absurd h (by omega)⟩
        go_wp2_with fail
        go_ret
        exact ⟨_, _, rfl, by simpa using hrow, hb1⟩
      · skip
        have hf : fewL n = n := by unfold fewL; rw [if_pos h1]; omega
        rw [hf]
        obtain ⟨a, rfl, ha, hcell⟩ := hr.2 (by omega)
        clear hcell
        have hl := hr.1
        have hmade : (w.alloc (.cells #[] 36)).ownsRow w.heap.size 36 2 (.slice (some ⟨w.heap.size, 0, none⟩) 0 0) 0 [] := World.ownsRow_made (base := w.heap.size) (e := 36) (size := 2) w #[] 0 (by simp) (by unfold maxLen; omega) (by simp)
        go_wp2_with (at_builtin; refine wpList_append_lies _ rfl (.tmp 11) (.tmp 16) 33 rfl w.heap.size 36 i0 (.agg #[.int .i64 0, .int .i64 0]) 2 16 Try.underlying33 Hi.out Hz0.out Hz1.out Hz2.out rfl (by decide) _ _ _ rfl hmade a n cap (flat (l.take (n))) rfl ?c1 ?c2 ?c3 ?c4 ?c5 ?c6 ?c7 _ rfl ?_)
        case c1 => rw [flat_length, List.length_take]; omega
        case c2 => exact news_of _ hr (by omega)
        case c3 => exact fun u hu => flat_one u hu
        case c4 => omega
        case c5 => unfold maxLen; omega
        case c6 => omega
        case c7 => simp
        intro g cap' w1 hown hgrow _ hlt
        have hb := ((Below.refl _ _).alloc (Nat.le_refl _) (.cells #[] 36)).grown hgrow (by simp) (fun k hk => (hmade.lt k hk).1)
        try simp only [List.nil_append, Nat.zero_add] at hown
        have hrow := own_row2 hown
        go_wp2_with fail
        go_ret
        exact ⟨_, _, rfl, by simpa using hrow, hb⟩
    · skip
      have hf : fewL n = 60 := by unfold fewL; rw [if_pos h1]; omega
      rw [hf]
      obtain ⟨a, rfl, ha, hcell⟩ := hr.2 (by omega)
      clear hcell
      have hl := hr.1
      have hmade : (w.alloc (.cells #[] 36)).ownsRow w.heap.size 36 2 (.slice (some ⟨w.heap.size, 0, none⟩) 0 0) 0 [] := World.ownsRow_made (base := w.heap.size) (e := 36) (size := 2) w #[] 0 (by simp) (by unfold maxLen; omega) (by simp)
      go_wp2_with (at_builtin; refine wpList_append_lies _ rfl (.tmp 11) (.tmp 16) 33 rfl w.heap.size 36 i0 (.agg #[.int .i64 0, .int .i64 0]) 2 16 Try.underlying33 Hi.out Hz0.out Hz1.out Hz2.out rfl (by decide) _ _ _ rfl hmade a 60 cap (flat (l.take (60))) rfl ?c1 ?c2 ?c3 ?c4 ?c5 ?c6 ?c7 _ rfl ?_)
      case c1 => rw [flat_length, List.length_take]; omega
      case c2 => exact news_of _ hr (by omega)
      case c3 => exact fun u hu => flat_one u hu
      case c4 => omega
      case c5 => unfold maxLen; omega
      case c6 => omega
      case c7 => simp
      intro g cap' w1 hown hgrow _ hlt
      have hb := ((Below.refl _ _).alloc (Nat.le_refl _) (.cells #[] 36)).grown hgrow (by simp) (fun k hk => (hmade.lt k hk).1)
      try simp only [List.nil_append, Nat.zero_add] at hown
      have hrow := own_row2 hown
      go_wp2_with fail
      go_ret
      exact ⟨_, _, rfl, by simpa using hrow, hb⟩
    · skip
      have hf : fewL n = 60 := by unfold fewL; rw [if_pos h1]; omega
      rw [hf]
      obtain ⟨a, rfl, ha, hcell⟩ := hr.2 (by omega)
      clear hcell
      have hl := hr.1
      have hmade : (w.alloc (.cells #[] 36)).ownsRow w.heap.size 36 2 (.slice (some ⟨w.heap.size, 0, none⟩) 0 0) 0 [] := World.ownsRow_made (base := w.heap.size) (e := 36) (size := 2) w #[] 0 (by simp) (by unfold maxLen; omega) (by simp)
      go_wp2_with (at_builtin; refine wpList_append_lies _ rfl (.tmp 11) (.tmp 16) 33 rfl w.heap.size 36 i0 (.agg #[.int .i64 0, .int .i64 0]) 2 16 Try.underlying33 Hi.out Hz0.out Hz1.out Hz2.out rfl (by decide) _ _ _ rfl hmade a 60 cap (flat (l.take (60))) rfl ?c1 ?c2 ?c3 ?c4 ?c5 ?c6 ?c7 _ rfl ?_)
      case c1 => rw [flat_length, List.length_take]; omega
      case c2 => exact news_of _ hr (by omega)
      case c3 => exact fun u hu => flat_one u hu
      case c4 => omega
      case c5 => unfold maxLen; omega
      case c6 => omega
      case c7 => simp
      intro g cap' w1 hown hgrow _ hlt
      have hb := ((Below.refl _ _).alloc (Nat.le_refl _) (.cells #[] 36)).grown hgrow (by simp) (fun k hk => (hmade.lt k hk).1)
      try simp only [List.nil_append, Nat.zero_add] at hown
      have hrow := own_row2 hown
      go_wp2_with fail
      go_ret
      exact ⟨_, _, rfl, by simpa using hrow, hb⟩
  · rcases Nat.lt_trichotomy n 1001 with h2 | h2 | h2
    · omega
    · skip
      have hf : fewL n = 1001 := by unfold fewL; rw [if_neg h1]
      rw [hf]
      obtain ⟨a, rfl, ha, hcell⟩ := hr.2 (by omega)
      clear hcell
      have hl := hr.1
      have hmade : (w.alloc (.cells #[] 36)).ownsRow w.heap.size 36 2 (.slice (some ⟨w.heap.size, 0, none⟩) 0 0) 0 [] := World.ownsRow_made (base := w.heap.size) (e := 36) (size := 2) w #[] 0 (by simp) (by unfold maxLen; omega) (by simp)
      go_wp2_with (at_builtin; refine wpList_append_lies _ rfl (.tmp 11) (.tmp 16) 33 rfl w.heap.size 36 i0 (.agg #[.int .i64 0, .int .i64 0]) 2 16 Try.underlying33 Hi.out Hz0.out Hz1.out Hz2.out rfl (by decide) _ _ _ rfl hmade a 1001 cap (flat (l.take (1001))) rfl ?c1 ?c2 ?c3 ?c4 ?c5 ?c6 ?c7 _ rfl ?_)
      case c1 => rw [flat_length, List.length_take]; omega
      case c2 => exact news_of _ hr (by omega)
      case c3 => exact fun u hu => flat_one u hu
      case c4 => omega
      case c5 => unfold maxLen; omega
      case c6 => omega
      case c7 => simp
      intro g cap' w1 hown hgrow _ hlt
      have hb := ((Below.refl _ _).alloc (Nat.le_refl _) (.cells #[] 36)).grown hgrow (by simp) (fun k hk => (hmade.lt k hk).1)
      try simp only [List.nil_append, Nat.zero_add] at hown
      have hrow := own_row2 hown
      go_wp2_with fail
      go_ret
      exact ⟨_, _, rfl, by simpa using hrow, hb⟩
    · skip
      have hf : fewL n = 1001 := by unfold fewL; rw [if_neg h1]
      rw [hf]
      obtain ⟨a, rfl, ha, hcell⟩ := hr.2 (by omega)
      clear hcell
      have hl := hr.1
      have hmade : (w.alloc (.cells #[] 36)).ownsRow w.heap.size 36 2 (.slice (some ⟨w.heap.size, 0, none⟩) 0 0) 0 [] := World.ownsRow_made (base := w.heap.size) (e := 36) (size := 2) w #[] 0 (by simp) (by unfold maxLen; omega) (by simp)
      go_wp2_with (at_builtin; refine wpList_append_lies _ rfl (.tmp 11) (.tmp 16) 33 rfl w.heap.size 36 i0 (.agg #[.int .i64 0, .int .i64 0]) 2 16 Try.underlying33 Hi.out Hz0.out Hz1.out Hz2.out rfl (by decide) _ _ _ rfl hmade a 1001 cap (flat (l.take (1001))) rfl ?c1 ?c2 ?c3 ?c4 ?c5 ?c6 ?c7 _ rfl ?_)
      case c1 => rw [flat_length, List.length_take]; omega
      case c2 => exact news_of _ hr (by omega)
      case c3 => exact fun u hu => flat_one u hu
      case c4 => omega
      case c5 => unfold maxLen; omega
      case c6 => omega
      case c7 => simp
      intro g cap' w1 hown hgrow _ hlt
      have hb := ((Below.refl _ _).alloc (Nat.le_refl _) (.cells #[] 36)).grown hgrow (by simp) (fun k hk => (hmade.lt k hk).1)
      try simp only [List.nil_append, Nat.zero_add] at hown
      have hrow := own_row2 hown
      go_wp2_with fail
      go_ret
      exact ⟨_, _, rfl, by simpa using hrow, hb⟩
end Go.Proofs.Ytjlnkghjiaglmaa
