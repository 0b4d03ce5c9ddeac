/-
  Rows of jobs; rising numbers; valid jobs pass the check.
  Conditions: the slices start at the heads of blocks.
-/
import Derived.Test.YtnfcigbiebbjdaaJohn2
import Derived.Test.YtnfcigbiebbjdaaJobs
namespace Go.Proofs.Ytnfcigbiebbjdaa
open Go.RowKit

/-- Five cells are a job. -/
def JobAt (w : World) (g p : Nat) (j : Jb) : Prop :=
  w.cell? ⟨g, p, none⟩ = some (.int .i64 j.work) ∧ w.cell? ⟨g, p + 1, none⟩ = some (.int .i64 j.rel) ∧ w.cell? ⟨g, p + 2, none⟩ = some (.int .i64 j.due) ∧ w.cell? ⟨g, p + 3, none⟩ = some (.int .i64 j.wt) ∧
  ∃ B m c, w.cell? ⟨g, p + 4, none⟩ = some (.slice B m c) ∧ RowH w B m j.after
/-- A slice of jobs that starts at the head of a block. -/
def JobsH (w : World) (A : Option Addr) (n : Nat) (l : List Jb) : Prop :=
  l.length = n ∧ (0 < n → ∃ g, A = some ⟨g, 0, none⟩ ∧ g < w.heap.size ∧ ∀ (k : Nat) (j : Jb), l[k]? = some j → JobAt w g (k * 5) j)
theorem JobAt.later {w w' : World} {g p : Nat} {j : Jb} (h : JobAt w g p j) (hg : g < w.heap.size) (hb : Below w.heap.size w w') : JobAt w' g p j := by
  obtain ⟨h0, h1, h2, h3, B, m, c, h4, h5⟩ := h
  exact ⟨(hb.cell (p := ⟨g, p, none⟩) hg).trans h0, (hb.cell (p := ⟨g, p + 1, none⟩) hg).trans h1, (hb.cell (p := ⟨g, p + 2, none⟩) hg).trans h2, (hb.cell (p := ⟨g, p + 3, none⟩) hg).trans h3, B, m, c, (hb.cell (p := ⟨g, p + 4, none⟩) hg).trans h4, h5.later hb⟩
theorem JobsH.later {w w' : World} {A : Option Addr} {n : Nat} {l : List Jb} (h : JobsH w A n l) (hb : Below w.heap.size w w') : JobsH w' A n l :=
  ⟨h.1, fun hn => by
    obtain ⟨g, e, hg, hc⟩ := h.2 hn
    exact ⟨g, e, Nat.lt_of_lt_of_le hg hb.size, fun k j hk => (hc k j hk).later hg hb⟩⟩
theorem JobsH.at_ {w : World} {A : Option Addr} {n k : Nat} {l : List Jb} (h : JobsH w A n l) (hk : k < n) : ∃ g j, A = some ⟨g, 0, none⟩ ∧ g < w.heap.size ∧ l[k]? = some j ∧ JobAt w g (k * 5) j := by
  obtain ⟨g, e, hg, hc⟩ := h.2 (by omega)
  have hl : k < l.length := by have := h.1; omega
  exact ⟨g, l[k], e, hg, List.getElem?_eq_getElem hl, hc k _ (List.getElem?_eq_getElem hl)⟩

theorem riseB_step {lim last x : Int} {l : List Int} {k : Nat} (hx : l[k]? = some x) : riseB lim last (l.drop k) = (decide (last < x) && (decide (x < lim) && riseB lim x (l.drop (k + 1)))) := by
  rw [drop_step hx]
  rfl
theorem riseB_short {k : Nat} {l : List Int} (h : riseB k (-1) l = true) : l.length ≤ k :=
  short_of_nodup k l (riseB_nodup h) fun i hi => by have := riseB_lt h i hi; omega
set_option maxHeartbeats 1000000 in
theorem rising_yes (A : Option Addr) (n c : Nat) (lim : Int) (l : List Int) (w : World) (rA : RowH w A n l) (hr : riseB lim (-1) l = true) (hn : n ≤ 1000) :
    Calls Try.prog 78 #[.slice A n c, .int .i64 lim] w fun e w' => e = .returned (.bool true) ∧ w = w' := by
  have HR := Lib.hid hr
  clear hr
  go_enter Try.func78, Try.ntmps78
  go_wp2_with fail
  go_loopw [5, 10] (fun t i wr => ∃ (k : Nat) (last : Int), k ≤ n ∧ i = .int .i64 k ∧ t = .int .i64 last ∧ Hid (riseB lim last (l.drop k) = true) ∧ w = wr) (fun _ i _ => n - (intOf i).toNat)
  case atStart => exact ⟨0, -1, Nat.zero_le _, rfl, rfl, HR, rfl⟩
  case round =>
    obtain ⟨k, last, hk, rfl, rfl, hL, rfl⟩ := hrel
    by_cases hlt : k < n
    · have hbt : decide ((k : Int) < (n : Int)) = true := by simp; omega
      have hbt2 : (k : Int) < (n : Int) := by omega
      obtain ⟨g, rfl, hg, hc⟩ := rA.at_ hlt
      have hl := getD_get (o := l) (k := k) (by rw [rA.1]; exact hlt)
      generalize l.getD k 0 = x at *
      have h2 := hL.out
      rw [riseB_step hl] at h2
      simp only [Bool.and_eq_true, decide_eq_true_eq] at h2
      obtain ⟨x1, x2, x3⟩ := h2
      have X3 := Lib.hid x3
      have d1 : decide (x ≤ last) = false := by simp; omega
      have d2 : ¬ x ≤ last := by omega
      have d3 : decide (x ≥ lim) = false := by simp; omega
      have d4 : ¬ lim ≤ x := by omega
      clear hl x3 hL
      go_wp2_with fail
      go_roundw
      case rel => exact ⟨k + 1, x, by omega, by go_num, rfl, X3, trivial⟩
      case measure => simp [intOf]; omega
    · obtain rfl : k = n := by omega
      have hbt : decide ((k : Int) < (k : Int)) = false := by simp
      go_wp2_with fail
      go_ret
      exact ⟨rfl, rfl⟩

theorem allB_step {l : List Jb} {j : Jb} {k : Nat} (hj : l[k]? = some j) (h : allB 0 l = true) : jobB k j = true := by
  have := allB_at h k j hj
  rwa [Nat.zero_add] at this
set_option maxHeartbeats 2000000 in
theorem Check_yes (A : Option Addr) (n c : Nat) (l : List Jb) (w : World) (rA : JobsH w A n l) (hv : validB l = true) :
    Calls Try.prog 50 #[.slice A n c] w fun e w' => e = .returned (.int .i64 0) ∧ Below w.heap.size w w' := by
  unfold validB at hv
  simp only [Bool.and_eq_true, decide_eq_true_eq] at hv
  obtain ⟨hl, hv⟩ := hv
  have HV := Lib.hid hv
  have hn : n ≤ 64 := by rw [← rA.1]; exact hl
  have d0 : decide ((n : Int) ≤ 64) = true := by simp; omega
  have d1 : (n : Int) ≤ 64 := by omega
  clear hv hl
  go_enter Try.func50, Try.ntmps50
  go_wp2_with fail
  go_loopw [3, 11] (fun t i wr => ∃ (k : Nat), k ≤ n ∧ i = .int .i64 k ∧ t = .bool true ∧ Below w.heap.size w wr) (fun _ i _ => n - (intOf i).toNat)
  case atStart => exact ⟨0, Nat.zero_le _, rfl, rfl, Below.refl _ _⟩
  case round =>
    obtain ⟨k, hk, rfl, rfl, hb⟩ := hrel
    by_cases hlt : k < n
    · have hbt : decide ((k : Int) < (n : Int)) = true := by simp; omega
      have hbt2 : (k : Int) < (n : Int) := by omega
      obtain ⟨g, j, rfl, hg, hj, h0, h1, h2, h3, B, m, c', h4, h5⟩ := (rA.later hb).at_ hlt
      have hJ := allB_step hj HV.out
      unfold jobB at hJ
      simp only [Bool.and_eq_true, decide_eq_true_eq] at hJ
      obtain ⟨⟨j1, j2, j3, j4, j5, j6, j7, j8⟩, hr⟩ := hJ
      have hb1 := hb.alloc hb.size (.cells #[.int .i64 j.work, .int .i64 j.rel, .int .i64 j.due, .int .i64 j.wt, .slice B m c'] 43)
      have M := Lib.hid (rising_yes B m c' k j.after (wr.alloc (.cells #[.int .i64 j.work, .int .i64 j.rel, .int .i64 j.due, .int .i64 j.wt, .slice B m c'] 43)) (h5.later ((Below.refl _ _).alloc (Nat.le_refl _) _)) hr (by have := riseB_short hr; have := h5.1; omega))
      clear h5 hj hr
      go_wp2_with fail
      refine M.out.mono ?_
      rintro e w2 ⟨rfl, rfl⟩
      go_wp2_with fail
      go_roundw
      case rel => exact ⟨k + 1, by omega, by go_num, rfl, hb1⟩
      case measure => simp [intOf]; omega
    · obtain rfl : k = n := by omega
      have hbt : decide ((k : Int) < (k : Int)) = false := by simp
      go_wp2_with fail
      go_ret
      exact ⟨rfl, hb⟩
end Go.Proofs.Ytnfcigbiebbjdaa
