/-
  A copy of the first jobs.
  Conditions: none on where the slice starts.
-/
import Derived.Test.YtnfcigbiebbjdaaFew
namespace Go.Proofs.Ytnfcigbiebbjdaa
open Go.RowKit

/-- Five cells are a job, wherever they lie. -/
def JobAny (w : World) (a : Addr) (j : Jb) : Prop :=
  w.cell? a = some (.int .i64 j.work) ∧ w.cell? ⟨a.block, a.off + 1, none⟩ = some (.int .i64 j.rel) ∧ w.cell? ⟨a.block, a.off + 2, none⟩ = some (.int .i64 j.due) ∧ w.cell? ⟨a.block, a.off + 3, none⟩ = some (.int .i64 j.wt) ∧
  ∃ B m c, w.cell? ⟨a.block, a.off + 4, none⟩ = some (.slice B m c) ∧ RowI w B m j.after ∧ m ≤ c ∧ (B = none → c = 0)
/-- A slice of jobs, wherever it starts. -/
def JobsA (w : World) (A : Option Addr) (n : Nat) (l : List Jb) : Prop :=
  l.length = n ∧ (0 < n → ∃ a : Addr, A = some a ∧ a.block < w.heap.size ∧ ∀ (k : Nat) (j : Jb), l[k]? = some j → JobAny w (a.add (k * 5)) j)
theorem JobAny.later {w w' : World} {a : Addr} {j : Jb} (h : JobAny w a j) (hg : a.block < w.heap.size) (hb : Below w.heap.size w w') : JobAny w' a j := by
  obtain ⟨h0, h1, h2, h3, B, m, c, h4, h5, h6, h7⟩ := h
  exact ⟨(hb.cell (p := a) hg).trans h0, (hb.cell (p := ⟨a.block, a.off + 1, none⟩) hg).trans h1, (hb.cell (p := ⟨a.block, a.off + 2, none⟩) hg).trans h2, (hb.cell (p := ⟨a.block, a.off + 3, none⟩) hg).trans h3, B, m, c, (hb.cell (p := ⟨a.block, a.off + 4, none⟩) hg).trans h4, h5.later hb, h6, h7⟩
theorem JobsA.later {w w' : World} {A : Option Addr} {n : Nat} {l : List Jb} (h : JobsA w A n l) (hb : Below w.heap.size w w') : JobsA w' A n l :=
  ⟨h.1, fun hn => by
    obtain ⟨a, e, hg, hc⟩ := h.2 hn
    exact ⟨a, e, Nat.lt_of_lt_of_le hg hb.size, fun k j hk => (hc k j hk).later (by rw [add_block]; exact hg) hb⟩⟩
theorem JobsA.at_ {w : World} {A : Option Addr} {n k : Nat} {l : List Jb} (h : JobsA w A n l) (hk : k < n) : ∃ a j, A = some a ∧ a.block < w.heap.size ∧ l[k]? = some j ∧ JobAny w (a.add (k * 5)) j := by
  obtain ⟨a, e, hg, hc⟩ := h.2 (by omega)
  have hl : k < l.length := by have := h.1; omega
  exact ⟨a, l[k], e, hg, List.getElem?_eq_getElem hl, hc k _ (List.getElem?_eq_getElem hl)⟩

/-- A value that is the call's own slice of integers. -/
def IsR (w : World) (v : Value) (l : List Int) : Prop := w.ownsRow 0 3 1 v l.length (l.map (Value.int .i64))
theorem IsR.later {w w' : World} {v : Value} {l : List Int} (h : IsR w v l) (hb : Below w.heap.size w w') : IsR w' v l := own_later h hb
theorem IsR.row {w : World} {v : Value} {l : List Int} (h : IsR w v l) : ∃ B c, v = .slice B l.length c ∧ RowH w B l.length l := by
  obtain ⟨B, c, e⟩ := own_slice h
  unfold IsR at h
  rw [e] at h
  exact ⟨B, c, e, own_rowH h⟩
theorem IsR.kept {w w' : World} {v x : Value} {l : List Int} {base M s : Nat} {t : TypeId} {vs : List Value} (h : IsR w v l) (hx : w.ownsRow base t s x M vs) (ht : t ≠ 3) (hg : w.grownBy w' x.ownBlock) : IsR w' v l := by
  refine World.ownsRow.kept h hg ?_
  cases hv : v.ownBlock with
  | none => exact .inl rfl
  | some g =>
    refine .inr fun he => ?_
    rcases h.2 with ⟨h1, _⟩ | ⟨g', cap', cur, h1, _, h3, _⟩
    · rw [h1] at hv; cases hv
    · rw [h1] at hv
      simp only [Value.ownBlock, Option.some.injEq] at hv
      subst hv
      rcases hx.2 with ⟨h4, _⟩ | ⟨gx, capx, curx, h4, _, h5, _⟩
      · subst h4; cases he
      · subst h4
        simp only [Value.ownBlock, Option.some.injEq] at he
        subst he
        rw [h3] at h5
        injection h5 with h6
        injection h6 with _ h7
        exact ht h7.symm
def Afters (w : World) (vs : List Value) (LL : List (List Int)) : Prop := vs.length = LL.length ∧ ∀ (k : Nat) (l : List Int), LL[k]? = some l → ∃ v, vs[k]? = some v ∧ IsR w v l
theorem Afters.snoc {w : World} {vs : List Value} {LL : List (List Int)} {v : Value} {l : List Int} (h : Afters w vs LL) (hv : IsR w v l) : Afters w (vs ++ [v]) (LL ++ [l]) := by
  refine ⟨by simp [h.1], fun k l' hk => ?_⟩
  rcases Nat.lt_trichotomy k LL.length with hlt | he | hgt
  · rw [List.getElem?_append_left hlt] at hk
    obtain ⟨v', h1, h2⟩ := h.2 k l' hk
    exact ⟨v', by rw [List.getElem?_append_left (by rw [h.1]; exact hlt)]; exact h1, h2⟩
  · subst he
    rw [List.getElem?_append_right (Nat.le_refl _), Nat.sub_self] at hk
    obtain rfl : l = l' := by simpa using hk
    exact ⟨v, by rw [← h.1, List.getElem?_append_right (Nat.le_refl _), Nat.sub_self]; rfl, hv⟩
  · rw [List.getElem?_eq_none (by simp; omega)] at hk
    cases hk
theorem Afters.mono {w w' : World} {vs : List Value} {LL : List (List Int)} (h : Afters w vs LL) (f : ∀ v l, IsR w v l → IsR w' v l) : Afters w' vs LL :=
  ⟨h.1, fun k l hk => by obtain ⟨v, hv, hr⟩ := h.2 k l hk; exact ⟨v, hv, f v l hr⟩⟩
def jcells (j : Jb) (v : Value) : List Value := [.int .i64 j.work, .int .i64 j.rel, .int .i64 j.due, .int .i64 j.wt, v]
def jflat : List Jb → List Value → List Value
  | j :: js, v :: vs => jcells j v ++ jflat js vs
  | _, _ => []
theorem jflat_at : ∀ {js : List Jb} {vs : List Value} {k i : Nat} {j : Jb} {v : Value}, js[k]? = some j → vs[k]? = some v → i < 5 → (jflat js vs)[k * 5 + i]? = (jcells j v)[i]?
  | [], _, k, i, j, v, h, _, _ => by simp at h
  | _ :: _, [], k, i, j, v, _, h, _ => by simp at h
  | x :: js, y :: vs, 0, i, j, v, h1, h2, hi => by
    simp at h1 h2
    subst h1 h2
    rw [Nat.zero_mul, Nat.zero_add, jflat, List.getElem?_append_left (by simpa [jcells] using hi)]
  | x :: js, y :: vs, k + 1, i, j, v, h1, h2, hi => by
    rw [jflat, List.getElem?_append_right (by simp [jcells]; omega), show (k + 1) * 5 + i - (jcells x y).length = k * 5 + i by simp [jcells]; omega]
    exact jflat_at (by simpa using h1) (by simpa using h2) hi
theorem jflat_snoc : ∀ {js : List Jb} {vs : List Value} {j : Jb} {v : Value}, js.length = vs.length → jflat (js ++ [j]) (vs ++ [v]) = jflat js vs ++ jcells j v
  | [], [], j, v, _ => by simp [jflat]
  | [], _ :: _, j, v, h => by simp at h
  | _ :: _, [], j, v, h => by simp at h
  | x :: js, y :: vs, j, v, h => by
    simp only [List.cons_append, jflat]
    rw [jflat_snoc (by simpa using h), List.append_assoc]
theorem own_jobs {w : World} {base n c : Nat} {A : Option Addr} {js : List Jb} {vs : List Value} (h : w.ownsRow base 43 5 (.slice A n c) n (jflat js vs)) (hn : js.length = n) (ha : Afters w vs (js.map Jb.after)) : JobsH w A n js := by
  refine ⟨hn, fun h0 => ?_⟩
  obtain ⟨g, cap, e, _, hg⟩ := h.form h0
  injection e with e1 e2 e3
  subst e1 e3
  refine ⟨g, rfl, hg, fun k j hk => ?_⟩
  have hkn : k < n := by have := (List.getElem?_eq_some_iff.1 hk).1; omega
  obtain ⟨v, hv, hr⟩ := ha.2 k j.after (by rw [List.getElem?_map, hk]; rfl)
  obtain ⟨B, c', e, hrow⟩ := hr.row
  subst e
  have hc := fun i (hi : i < 5) => (h.cellAt (k * 5 + i) (by omega)).trans (jflat_at (i := i) hk hv hi)
  exact ⟨hc 0 (by omega), hc 1 (by omega), hc 2 (by omega), hc 3 (by omega), B, _, c', hc 4 (by omega), hrow⟩
/-- A job with what it comes after cut short. -/
def cutJ (j : Jb) : Jb := ⟨j.work, j.rel, j.due, j.wt, j.after.take 70⟩
def fewN (n q : Nat) : Nat := if n ≤ 64 then min n q else 65
theorem info43 : (Try.prog.info? 43).map (fun i => (i.zero, i.size, i.bytes)) = some (some (.agg #[.int .i64 0, .int .i64 0, .int .i64 0, .int .i64 0, .slice none 0 0]), 5, 56) := by kernel_rfl
def FewK (w0 : World) (l : List Jb) (k : Nat) (v : Value) (wr : World) : Prop :=
  ∃ vs : List Value, wr.ownsRow w0.heap.size 43 5 v k (jflat ((l.take k).map cutJ) vs) ∧ Afters wr vs (((l.take k).map cutJ).map Jb.after) ∧ Below w0.heap.size w0 wr
def FewR (w : World) (js : List Jb) (e : Ending) (w' : World) : Prop := ∃ A c, e = .returned (.slice A js.length c) ∧ JobsH w' A js.length js ∧ Below w.heap.size w w'
end Go.Proofs.Ytnfcigbiebbjdaa
