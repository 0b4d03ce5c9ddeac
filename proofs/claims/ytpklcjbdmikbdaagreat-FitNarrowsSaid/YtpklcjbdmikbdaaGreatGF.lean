/-
  The seat's texts FSmall FSpan FRow Find Rept Rise Most in one: the contracts of the functions that the law reaches, and the plain laws that they rest on.
  Conditions: as each theorem states them.
-/
import Derived.Test.YtpklcjbdmikbdaaGreatProg
import Derived.Test.YtpklcjbdmikbdaaGreatGK
import Derived.Test.YtpklcjbdmikbdaaGreatGS
import Derived.Test.YtpklcjbdmikbdaaGreatGP
import Derived.Deep.Cut
import Derived.Test.YtpklcjbdmikbdaaGreatLayM
import Derived.Laws.CopyOwn
import Derived.Outline
import Derived.Deep.RegionLaw
namespace Go.Proofs.YtpklcjbdmikbdaaGreat
open Go.RowKit

theorem rin_any (v a b : Int) (w : World) : Calls Tryz.prog 25 #[.int .i64 v, .int .i64 a, .int .i64 b] w fun e w' => e = .returned (.bool (decide (a ≤ v) && decide (v ≤ b))) ∧ w = w' := by
  by_cases h1 : a ≤ v
  · have d1 : decide (a ≤ v) = true := by simpa using h1
    by_cases h2 : v ≤ b
    · have d2 : decide (v ≤ b) = true := by simpa using h2
      have H : Hid ((decide (a ≤ v) && decide (v ≤ b)) = true) := by show _ = _; rw [d1, d2]; rfl
      go_enter Tryz.func25, Tryz.ntmps25
      go_wp2
      go_ret
      exact ⟨by first | rfl | (rw [H.out]; rfl), rfl⟩
    · have d2 : decide (v ≤ b) = false := by simpa using h2
      have H : Hid ((decide (a ≤ v) && decide (v ≤ b)) = false) := by show _ = _; rw [d1, d2]; rfl
      go_enter Tryz.func25, Tryz.ntmps25
      go_wp2
      go_ret
      exact ⟨by first | rfl | (rw [H.out]; rfl), rfl⟩
  · have d1 : decide (a ≤ v) = false := by simpa using h1
    have H : Hid ((decide (a ≤ v) && decide (v ≤ b)) = false) := by show _ = _; rw [d1]; rfl
    go_enter Tryz.func25, Tryz.ntmps25
    go_wp2
    go_ret
    exact ⟨by first | rfl | (rw [H.out]; rfl), rfl⟩
theorem within_any (v m : Int) (w : World) (m0 : 0 ≤ m) (m1 : m ≤ 4000000) : Calls Tryz.prog 35 #[.int .i64 v, .int .i64 m] w fun e w' => e = .returned (.bool (decide (-m ≤ v) && decide (v ≤ m))) ∧ w = w' := by
  by_cases h1 : -m ≤ v
  · have d1 : decide (-m ≤ v) = true := by simpa using h1
    by_cases h2 : v ≤ m
    · have d2 : decide (v ≤ m) = true := by simpa using h2
      have H : Hid ((decide (-m ≤ v) && decide (v ≤ m)) = true) := by show _ = _; rw [d1, d2]; rfl
      go_enter Tryz.func35, Tryz.ntmps35
      go_wp2
      go_ret
      exact ⟨by first | rfl | (rw [H.out]; rfl), rfl⟩
    · have d2 : decide (v ≤ m) = false := by simpa using h2
      have H : Hid ((decide (-m ≤ v) && decide (v ≤ m)) = false) := by show _ = _; rw [d1, d2]; rfl
      go_enter Tryz.func35, Tryz.ntmps35
      go_wp2
      go_ret
      exact ⟨by first | rfl | (rw [H.out]; rfl), rfl⟩
  · have d1 : decide (-m ≤ v) = false := by simpa using h1
    have H : Hid ((decide (-m ≤ v) && decide (v ≤ m)) = false) := by show _ = _; rw [d1]; rfl
    go_enter Tryz.func35, Tryz.ntmps35
    go_wp2
    go_ret
    exact ⟨by first | rfl | (rw [H.out]; rfl), rfl⟩
theorem inS_any (v lo hi : Int) (w : World) : Calls Tryz.prog 37 #[.int .i64 v, .agg #[.int .i64 lo, .int .i64 hi]] w fun e w' => e = .returned (.bool (decide (lo ≤ v) && decide (v ≤ hi))) ∧ Below w.heap.size w w' := by
  have hb : Below w.heap.size w (w.alloc (.cells #[.int .i64 lo, .int .i64 hi] 24)) := (Below.refl _ _).alloc (Nat.le_refl _) _
  by_cases h1 : lo ≤ v
  · have d1 : decide (lo ≤ v) = true := by simpa using h1
    by_cases h2 : v ≤ hi
    · have d2 : decide (v ≤ hi) = true := by simpa using h2
      have H : Hid ((decide (lo ≤ v) && decide (v ≤ hi)) = true) := by show _ = _; rw [d1, d2]; rfl
      go_enter Tryz.func37, Tryz.ntmps37
      go_wp2
      go_ret
      exact ⟨by first | rfl | (rw [H.out]; rfl), hb⟩
    · have d2 : decide (v ≤ hi) = false := by simpa using h2
      have H : Hid ((decide (lo ≤ v) && decide (v ≤ hi)) = false) := by show _ = _; rw [d1, d2]; rfl
      go_enter Tryz.func37, Tryz.ntmps37
      go_wp2
      go_ret
      exact ⟨by first | rfl | (rw [H.out]; rfl), hb⟩
  · have d1 : decide (lo ≤ v) = false := by simpa using h1
    have H : Hid ((decide (lo ≤ v) && decide (v ≤ hi)) = false) := by show _ = _; rw [d1]; rfl
    go_enter Tryz.func37, Tryz.ntmps37
    go_wp2
    go_ret
    exact ⟨by first | rfl | (rw [H.out]; rfl), hb⟩
end Go.Proofs.YtpklcjbdmikbdaaGreat
namespace Go.Proofs.YtpklcjbdmikbdaaGreat
open Go.RowKit

def inB (v a b : Int) : Bool := decide (a ≤ v) && decide (v ≤ b)
/-- A valid span. -/
def spanB (lo hi : Int) : Bool := inB lo (-1000000) 1000000 && (inB hi (-1000000) 1000000 && decide (lo ≤ hi))
theorem valid_any (lo hi : Int) (w : World) : Calls Tryz.prog 22 #[.agg #[.int .i64 lo, .int .i64 hi]] w fun e w' => e = .returned (.bool (spanB lo hi)) ∧ Below w.heap.size w w' := by
  have hb : Below w.heap.size w (w.alloc (.cells #[.int .i64 lo, .int .i64 hi] 24)) := (Below.refl _ _).alloc (Nat.le_refl _) _
  have M1 := fun w => within_any lo 1000000 w (by omega) (by omega)
  have M2 := fun w => within_any hi 1000000 w (by omega) (by omega)
  obtain ⟨b1, h1⟩ : ∃ b, (decide (-1000000 ≤ lo) && decide (lo ≤ 1000000)) = b := ⟨_, rfl⟩
  obtain ⟨b2, h2⟩ : ∃ b, (decide (-1000000 ≤ hi) && decide (hi ≤ 1000000)) = b := ⟨_, rfl⟩
  rw [h1] at M1
  rw [h2] at M2
  have H : Hid (spanB lo hi = (b1 && (b2 && decide (lo ≤ hi)))) := by show _ = _; unfold spanB inB; rw [h1, h2]
  have HM1 := Lib.hid M1
  have HM2 := Lib.hid M2
  clear M1 M2 h1 h2
  cases b1
  · go_enter Tryz.func22, Tryz.ntmps22
    go_wp2_with fail
    refine (HM1.out _).mono ?_
    rintro e w1 ⟨rfl, rfl⟩
    go_wp2_with fail
    go_ret
    exact ⟨by rw [H.out]; rfl, hb⟩
  · cases b2
    · go_enter Tryz.func22, Tryz.ntmps22
      go_wp2_with fail
      refine (HM1.out _).mono ?_
      rintro e w1 ⟨rfl, rfl⟩
      go_wp2_with fail
      refine (HM2.out _).mono ?_
      rintro e w1 ⟨rfl, rfl⟩
      go_wp2_with fail
      go_ret
      exact ⟨by rw [H.out]; rfl, hb⟩
    · go_enter Tryz.func22, Tryz.ntmps22
      go_wp2_with fail
      refine (HM1.out _).mono ?_
      rintro e w1 ⟨rfl, rfl⟩
      go_wp2_with fail
      refine (HM2.out _).mono ?_
      rintro e w1 ⟨rfl, rfl⟩
      go_wp2_with fail
      go_ret
      exact ⟨by rw [H.out]; rfl, hb⟩
/-- A valid span, as the document says it. -/
def rspanB (lo hi m : Int) : Bool := inB lo (-m) hi && decide (hi ≤ m)
theorem rSpan_any (lo hi m : Int) (w : World) (m0 : 0 ≤ m) (m1 : m ≤ 4000000) : Calls Tryz.prog 9 #[.agg #[.int .i64 lo, .int .i64 hi], .int .i64 m] w fun e w' => e = .returned (.bool (rspanB lo hi m)) ∧ Below w.heap.size w w' := by
  have hb : Below w.heap.size w (w.alloc (.cells #[.int .i64 lo, .int .i64 hi] 24)) := (Below.refl _ _).alloc (Nat.le_refl _) _
  have M1 := fun w => rin_any lo (-m) hi w
  obtain ⟨b1, h1⟩ : ∃ b, (decide (-m ≤ lo) && decide (lo ≤ hi)) = b := ⟨_, rfl⟩
  rw [h1] at M1
  have H : Hid (rspanB lo hi m = (b1 && decide (hi ≤ m))) := by show _ = _; unfold rspanB inB; rw [h1]
  have HM1 := Lib.hid M1
  clear M1 h1
  cases b1
  all_goals
    go_enter Tryz.func9, Tryz.ntmps9
    go_wp2_with fail
    refine (HM1.out _).mono ?_
    rintro e w1 ⟨rfl, rfl⟩
    go_wp2_with fail
    go_ret
    exact ⟨by rw [H.out]; rfl, hb⟩
theorem span_same (lo hi : Int) : rspanB lo hi 1000000 = spanB lo hi := by
  unfold rspanB spanB inB
  rw [Bool.eq_iff_iff]
  simp only [Bool.and_eq_true, decide_eq_true_eq]
  omega
end Go.Proofs.YtpklcjbdmikbdaaGreat
namespace Go.Proofs.YtpklcjbdmikbdaaGreat
set_option maxRecDepth 100000
open Go.RowKit

/-- Outside the blocks of T all lies as it lay. -/
structure Only (T : Nat → Prop) (w w' : World) : Prop where
  os : w'.os = w.os
  tape : w'.tape = w.tape
  output : w'.output = w.output
  size : w.heap.size ≤ w'.heap.size
  block : ∀ k, k < w.heap.size → ¬ T k → w'.heap[k]? = w.heap[k]?
section
variable {T : Nat → Prop} {a b c : World}
theorem Only.refl (T : Nat → Prop) (w : World) : Only T w w := ⟨rfl, rfl, rfl, Nat.le_refl _, fun _ _ _ => rfl⟩
theorem Only.trans (h : Only T a b) (k : Only T b c) : Only T a c :=
  ⟨k.os.trans h.os, k.tape.trans h.tape, k.output.trans h.output, Nat.le_trans h.size k.size, fun i hi hn => (k.block i (Nat.lt_of_lt_of_le hi h.size) hn).trans (h.block i hi hn)⟩
theorem Only.mono {T' : Nat → Prop} (h : Only T a b) (hs : ∀ k, k < a.heap.size → T k → T' k) : Only T' a b := ⟨h.os, h.tape, h.output, h.size, fun i hi hn => h.block i hi (fun ht => hn (hs i hi ht))⟩
theorem Only.of_below (h : Below a.heap.size a b) : Only T a b := ⟨h.os, h.tape, h.output, h.size, fun i hi _ => h.block i hi⟩
theorem Only.below (h : Only T a b) (k : Below b.heap.size b c) : Only T a c := h.trans (Only.of_below k)
theorem Only.setCell (h : Only T a b) {p : Addr} (hp : T p.block ∨ a.heap.size ≤ p.block) (u : Value) : Only T a (b.setCell p u) :=
  ⟨h.os, h.tape, h.output, by simpa [World.setCell] using h.size, fun i hi hn => (Below.heap_setCell b p u i (by
    rintro rfl
    rcases hp with hp | hp
    · exact hn hp
    · omega)).trans (h.block i hi hn)⟩
theorem Only.to_below (h : Only T a b) {B : Nat} (hB : B ≤ a.heap.size) (hT : ∀ k, T k → B ≤ k) : Below B a b := ⟨h.os, h.tape, h.output, h.size, fun k hk => h.block k (by omega) (fun ht => by have := hT k ht; omega)⟩
theorem Only.blk {g : Nat} {t : TypeId} {cs : Array Value} (h : Only T a b) (hb : Blk a g t cs) (hg : ¬ T g) : Blk b g t cs := (h.block g hb.lt hg).trans hb
theorem Only.rowB {g : Nat} {l : List Int} (h : Only T a b) (hb : RowB a g l) (hg : ¬ T g) : RowB b g l := by
  obtain ⟨rest, hb⟩ := hb
  exact ⟨rest, h.blk hb hg⟩
theorem Only.rowH {A : Option Addr} {n : Nat} {l : List Int} (h : Only T a b) (hr : RowH a A n l) (hA : ∀ g, 0 < n → A = some ⟨g, 0, none⟩ → ¬ T g) : RowH b A n l :=
  ⟨hr.1, fun hn => by
    obtain ⟨g, e, hg, hc⟩ := hr.2 hn
    refine ⟨g, e, Nat.lt_of_lt_of_le hg h.size, fun k v hk => ?_⟩
    have hbk := h.block g hg (hA g hn e)
    have h0 := hc k v hk
    simp only [World.cell?] at h0 ⊢
    rw [hbk]
    exact h0⟩
theorem Only.rowI {A : Option Addr} {n : Nat} {l : List Int} (h : Only T a b) (hr : RowI a A n l) (hA : ∀ p, 0 < n → A = some p → ¬ T p.block) : RowI b A n l :=
  ⟨hr.1, fun hn => by
    obtain ⟨g, e, hg, hc⟩ := hr.2 hn
    refine ⟨g, e, Nat.lt_of_lt_of_le hg h.size, fun k v hk => ?_⟩
    have hbk := h.block g.block hg (hA g hn e)
    have h0 := hc k v hk
    simp only [World.cell?] at h0 ⊢
    rw [add_block] at h0 ⊢
    rw [hbk]
    exact h0⟩
theorem Only.drew (h : Only T a b) : Only T a b.drew := ⟨h.os, h.tape, h.output, h.size, h.block⟩
theorem Only.drewN (h : Only T a b) (n : Nat) : Only T a (b.drewN n) := ⟨h.os, h.tape, h.output, h.size, h.block⟩
end

def boolr (l : List Bool) : Array Value := (l.map Value.bool).toArray
theorem boolr_at {l : List Bool} {i : Nat} {x : Bool} (h : l[i]? = some x) : (boolr l)[i]? = some (.bool x) := by
  unfold boolr
  rw [List.getElem?_toArray, List.getElem?_map, h]
  rfl
theorem boolr_set (l : List Bool) (i : Nat) (x : Bool) : (boolr l).setIfInBounds i (.bool x) = boolr (l.set i x) := by
  unfold boolr
  rw [List.setIfInBounds_toArray, List.map_set]
/-- Block P is a row of Booleans. -/
def RowO (w : World) (P : Nat) (l : List Bool) : Prop := Blk w P 4 (boolr l)
section
variable {w w' : World} {P : Nat} {l : List Bool}
theorem RowO.at_ {i : Nat} {x : Bool} (h : RowO w P l) (hi : l[i]? = some x) : w.cell? ⟨P, i, none⟩ = some (.bool x) := (Blk.cell h i).trans (boolr_at hi)
theorem RowO.set_ (h : RowO w P l) (i : Nat) (x : Bool) : RowO (w.setCell ⟨P, i, none⟩ (.bool x)) P (l.set i x) := by
  have := Blk.set_ h i (.bool x)
  rwa [boolr_set] at this
theorem RowO.later (h : RowO w P l) (hb : Below w.heap.size w w') : RowO w' P l := Blk.later h hb
theorem RowO.frozen (h : RowO w P l) (i : Nat) : w.frozen? ⟨P, i, none⟩ = false := Blk.frozen h i
theorem RowO.lt (h : RowO w P l) : P < w.heap.size := Blk.lt h
theorem RowO.far (h : RowO w P l) {p : Addr} (hp : P ≠ p.block) (u : Value) : RowO (w.setCell p u) P l := Blk.far h hp u
theorem RowO.only {T : Nat → Prop} (h : RowO w P l) (hb : Only T w w') (hP : ¬ T P) : RowO w' P l := hb.blk h hP
end
theorem info4 : (Tryz.prog.info? 4).map (fun i => (i.zero, i.size, i.bytes)) = some (some (.bool false), 1, 1) := by kernel_rfl
/-- A new row of Booleans. -/
theorem make_bools (n : Nat) (hn : n ≤ 100000) (w : World) : (Instr.makeSlice 89 (.int .i64 (n : Int)) (.int .i64 (n : Int))).run Tryz.prog w = .ok (.slice (some ⟨w.heap.size, 0, none⟩) n n) (w.alloc (.cells (boolr (List.replicate n false)) 4)) := by
  obtain ⟨i0, hi, hz0, hz1, hz2⟩ := info_parts info4
  have hr := run_make (P := Tryz.prog) w 89 4 i0 (.bool false) Tryz.underlying89 hi hz0 .i64 .i64 n n (by omega) (Int.le_refl _) (by rw [hz2]; omega) (by omega)
  simp only [Int.toNat_natCast] at hr
  rw [hr, hz1, Nat.mul_one]
  have e : madeCells (Value.bool false).cells n = boolr (List.replicate n false) := by
    apply Array.toList_inj.1
    have := toList_madeCells_one (.bool false) n
    show (madeCells #[.bool false] n).toList = _
    rw [this]
    simp [boolr]
  rw [e]
theorem RowO.new (w : World) (n : Nat) : RowO (w.alloc (.cells (boolr (List.replicate n false)) 4)) w.heap.size (List.replicate n false) := Blk.new w 4 _

/-- A job: its shafts, its holes, its clearance. -/
structure JobW (w : World) (J : Nat) (As Ah : Option Addr) (cs ch : Nat) (s h : List Int) (lo hi : Int) : Prop where
  blk : Blk w J 84 #[.slice As s.length cs, .slice Ah h.length ch, .int .i64 lo, .int .i64 hi]
  rs : RowH w As s.length s
  rh : RowH w Ah h.length h
section
variable {w w' : World} {J : Nat} {As Ah : Option Addr} {cs ch : Nat} {s h : List Int} {lo hi : Int}
theorem JobW.later (j : JobW w J As Ah cs ch s h lo hi) (hb : Below w.heap.size w w') : JobW w' J As Ah cs ch s h lo hi := ⟨j.blk.later hb, j.rs.later hb, j.rh.later hb⟩
/-- T has none of the job's blocks. -/
def JobOff (T : Nat → Prop) (J : Nat) (As Ah : Option Addr) (s h : List Int) : Prop := ¬ T J ∧ (∀ g, 0 < s.length → As = some ⟨g, 0, none⟩ → ¬ T g) ∧ (∀ g, 0 < h.length → Ah = some ⟨g, 0, none⟩ → ¬ T g)
theorem JobW.only {T : Nat → Prop} (j : JobW w J As Ah cs ch s h lo hi) (hb : Only T w w') (ho : JobOff T J As Ah s h) : JobW w' J As Ah cs ch s h lo hi := ⟨hb.blk j.blk ho.1, hb.rowH j.rs ho.2.1, hb.rowH j.rh ho.2.2⟩
theorem RowH.lt {A : Option Addr} {n : Nat} {l : List Int} (r : RowH w A n l) {g : Nat} (hn : 0 < n) (e : A = some ⟨g, 0, none⟩) : g < w.heap.size := by
  obtain ⟨g', e', hg, _⟩ := r.2 hn
  rw [e] at e'
  injection e' with e'
  injection e' with e'
  omega
/-- Blocks that were made later are none of the job's. -/
theorem JobW.off {T : Nat → Prop} (j : JobW w J As Ah cs ch s h lo hi) (hT : ∀ k, k < w.heap.size → ¬ T k) : JobOff T J As Ah s h := ⟨hT _ j.blk.lt, fun g h0 e => hT g (j.rs.lt h0 e), fun g h0 e => hT g (j.rh.lt h0 e)⟩
end
/-- Does a shaft fit a hole: as the program asks it. -/
def fitB (s h : List Int) (lo hi : Int) (x k : Nat) : Bool := decide (lo ≤ h.getD k 0 - s.getD x 0) && decide (h.getD k 0 - s.getD x 0 ≤ hi)
theorem fitB_iff {s h : List Int} {lo hi : Int} {x k : Nat} (hx : x < s.length) (hk : k < h.length) : fitB s h lo hi x k = true ↔ fitP s h lo hi x k := by
  unfold fitB fitP
  simp [hx, hk]
/-- All are sizes. -/
def Sizes (l : List Int) : Prop := ∀ v ∈ l, -1000000 ≤ v ∧ v ≤ 1000000
theorem Sizes.at_ {l : List Int} (h : Sizes l) (k : Nat) : -1000000 ≤ l.getD k 0 ∧ l.getD k 0 ≤ 1000000 := by
  rw [List.getD_eq_getElem?_getD]
  cases e : l[k]? with
  | none => simp
  | some v => exact h v (List.mem_of_getElem? e)
set_option maxHeartbeats 1000000 in
theorem fits_any {J : Nat} {As Ah : Option Addr} {cs ch : Nat} {s h : List Int} {lo hi : Int} (w : World) (j : JobW w J As Ah cs ch s h lo hi) (hs : Sizes s) (hh : Sizes h) (x k : Nat) (hx : x < s.length) (hk : k < h.length) :
    Calls Tryz.prog 44 #[.pointer (some ⟨J, 0, none⟩), .int .i64 (x : Int), .int .i64 (k : Int)] w fun e w' => e = .returned (.bool (fitB s h lo hi x k)) ∧ Below w.heap.size w w' := by
  have hc := j.blk.cell
  have hJ := j.blk.lt
  obtain ⟨gs, rfl, hgs, hsc⟩ := j.rs.at_ hx
  obtain ⟨gh, rfl, hgh, hhc⟩ := j.rh.at_ hk
  have b1 := hs.at_ x
  have b2 := hh.at_ k
  have M := fun w => inS_any (h.getD k 0 - s.getD x 0) lo hi w
  have H : fitB s h lo hi x k = (decide (lo ≤ h.getD k 0 - s.getD x 0) && decide (h.getD k 0 - s.getD x 0 ≤ hi)) := rfl
  rw [← H] at M
  have HM := Lib.hid M
  clear M H hs hh j
  generalize h.getD k 0 = hv at *
  generalize s.getD x 0 = sv at *
  have hx := later_cell (w := w)
  go_enter Tryz.func44, Tryz.ntmps44
  go_wp2_with fail
  refine wp_region_later (by kernel_rfl) (by kernel_rfl) ?_
  repeat (go_big_quiet_step ((go_at_call 37; exact later_call (HM.out _))))
  refine wpQuiet_nil ?_
  rintro w2 ⟨⟨_, hb2⟩, rfl⟩
  go_wp2_with fail
  go_ret
  exact ⟨rfl, hb2⟩
end Go.Proofs.YtpklcjbdmikbdaaGreat
namespace Go.Proofs.YtpklcjbdmikbdaaGreat
open Go.RowKit

/-- The holes that were not seen. -/
def unseen (s : List Bool) (k : Nat) : Prop := s[k]? = some false
def two (P S : Nat) (k : Nat) : Prop := k = P ∨ k = S
/-- What a search leaves. -/
def FindR (F : Nat → Nat → Prop) (P S : Nat) (o : List Int) (t : List Bool) (x : Nat) (w : World) (e : Ending) (w' : World) : Prop :=
  ∃ (b : Bool) (q : List Int) (u : List Bool), e = .returned (.bool b) ∧ RowB w' P q ∧ RowO w' S u ∧ u.length = t.length ∧ Only (two P S) w w' ∧ (b = true → Grew F (unseen t) o x q) ∧ (b = false → q = o ∧ Shut F o x t u)

theorem unseen_sub {t u : List Bool} (hl : u.length = t.length) (hm : ∀ h : Nat, t[h]? = some true → u[h]? = some true) : ∀ k, unseen u k → unseen t k := fun k hk => by
  unfold unseen at *
  cases e : t[k]? with
  | none =>
    have a1 := (List.getElem?_eq_some_iff.1 hk).1
    have a2 := List.getElem?_eq_none_iff.1 e
    omega
  | some b =>
    cases b with
    | true => rw [hm k e] at hk; cases hk
    | false => rfl
theorem unseen_set {u : List Bool} {k : Nat} (hk : k < u.length) (g : Nat) : unseen (u.set k true) g ↔ unseen u g ∧ g ≠ k := by
  unfold unseen
  rw [set_true hk]
  by_cases e : k = g
  · subst e; simp
  · rw [if_neg e]; exact ⟨fun h => ⟨h, Ne.symm e⟩, fun h => h.1⟩
theorem Grew.iff {F : Nat → Nat → Prop} {U U' : Nat → Prop} {o q : List Int} {i : Nat} (h : Grew F U o i q) (e : ∀ k, U k ↔ U' k) : Grew F U' o i q := by
  have : U = U' := funext fun k => propext (e k)
  rw [← this]
  exact h
set_option maxRecDepth 100000 in
set_option maxHeartbeats 8000000 in
theorem find_any {J : Nat} {As Ah : Option Addr} {cs ch : Nat} {s h : List Int} {lo hi : Int} (hs : Sizes s) (hh : Sizes h) (l2 : h.length ≤ 1000) (Q P S c1 c2 : Nat) (hPS : P ≠ S) (hQP : Q ≠ P) (hQS : Q ≠ S) (hoff : JobOff (two P S) J As Ah s h) :
    ∀ (d : Nat) (t : List Bool) (o : List Int) (x : Nat) (w : World), dark t = d → JobW w J As Ah cs ch s h lo hi → Blk w Q 114 #[.pointer (some ⟨J, 0, none⟩), .slice (some ⟨P, 0, none⟩) h.length c1, .slice (some ⟨S, 0, none⟩) h.length c2] →
      RowB w P o → RowO w S t → o.length = h.length → t.length = h.length → Fine (fitP s h lo hi) (unseen t) o → (∀ k, unseen t k → o[k]? ≠ some (x : Int)) → x < s.length →
      Calls Tryz.prog 64 #[.pointer (some ⟨Q, 0, none⟩), .int .i64 (x : Int)] w (FindR (fitP s h lo hi) P S o t x w) := by
  intro d
  induction d using Nat.strongRecOn with
  | ind d ih =>
    intro t o x w hd j hQ hP hS lo1 lt1 hf hx hxs
    have hJne : J ≠ P ∧ J ≠ S := ⟨fun e => hoff.1 (.inl e), fun e => hoff.1 (.inr e)⟩
    have hcQ := hQ.cell
    have hcJ := j.blk.cell
    have hlJ := j.blk.lt
    have hlQ := hQ.lt
    go_enter Tryz.func64, Tryz.ntmps64
    go_wp2_with fail
    clear hcQ hcJ
    go_loopw [14] (fun i wr => ∃ (k : Nat) (u : List Bool), k ≤ h.length ∧ i = .int .i64 k ∧ RowB wr P o ∧ RowO wr S u ∧ Hid (ShutTo (fitP s h lo hi) o x k t u) ∧ Only (two P S) w wr) (fun i _ => h.length - (intOf i).toNat)
    case atStart => exact ⟨0, t, Nat.zero_le _, rfl, hP, hS, ShutTo.first _ _ _ _, Only.refl _ _⟩
    case round =>
      obtain ⟨k, u, hk, rfl, hP1, hS1, hsh, hon⟩ := hrel
      have j1 := j.only hon hoff
      have hQ1 := hon.blk hQ (by unfold two; omega)
      by_cases hlt : k < h.length
      · have hut : k < u.length := by have := hsh.out.len; omega
        have hcQ := hQ1.cell
        have hlQ1 := hQ1.lt
        have hlS := hS1.lt
        have hlP := hP1.lt
        obtain ⟨b, hb⟩ : ∃ b, u[k]? = some b := ⟨_, List.getElem?_eq_getElem hut⟩
        have hcS := hS1.at_ hb
        have hbt : decide ((k : Int) < (h.length : Int)) = true := by simp; omega
        cases b with
        | true =>
          go_wp2_with fail
          go_roundw
          case rel => exact ⟨k + 1, u, by omega, by go_num, hP1, hS1, hsh.out.skip fun _ => hb, hon⟩
          case measure => simp [intOf]; omega
        | false =>
          have HM := Lib.hid (fits_any (lo := lo) (hi := hi) (cs := cs) (ch := ch) wr j1 hs hh x k hxs hlt)
          by_cases hfit : fitB s h lo hi x k = true
          · rw [hfit] at HM
            have hF := (fitB_iff hxs hlt).1 hfit
            have hus := unseen_sub hsh.out.len hsh.out.more
            have htk : unseen t k := hus k hb
            obtain ⟨v, hv⟩ : ∃ v, o[k]? = some v := ⟨_, List.getElem?_eq_getElem (by omega)⟩
            go_wp2_with fail
            refine HM.out.mono ?_
            rintro e w1 ⟨rfl, hb1⟩
            clear hcS hcQ HM
            have hQ2 := hQ1.later hb1
            have hP2 := hP1.later hb1
            have hS2 := hS1.later hb1
            have hon2 := hon.below hb1
            have hcQ := hQ2.cell
            have hcS := hS2.at_ hb
            have hfS := hS2.frozen k
            have hlQ2 := hQ2.lt
            have hlS2 := hS2.lt
            have hlP2 := hP2.lt
            go_upto_region 6 with fail
            have hQ3 := hQ2.far (p := ⟨S, k, none⟩) hQS (.bool true)
            have hP3 := hP2.far (p := ⟨S, k, none⟩) hPS (.bool true)
            have hS3 := hS2.set_ k true
            have hon3 := hon2.setCell (p := ⟨S, k, none⟩) (.inl (.inr rfl)) (.bool true)
            clear hcQ hcS hfS hQ2 hP2 hS2 hon2
            revert hQ3 hP3 hS3 hon3
            generalize w1.setCell ⟨S, k, none⟩ (.bool true) = w2
            intro hQ3 hP3 hS3 hon3
            have hcQ := hQ3.cell
            have hcP := hP3.at_ hv
            have hfP := hP3.frozen k
            have hlQ3 := hQ3.lt
            have hlP3 := hP3.lt
            clear hb1 hQ1 hP1 hS1 hlQ2 hlS2 hlP2 hlQ1 hlS hlP hon
            by_cases hv0 : v < 0
            · have hvt : decide (v < 0) = true := by simpa using hv0
              have HG := Lib.hid ((Grew.here htk hF hv hv0 hf hx))
              have HP4 := Lib.hid (hP3.set_ k (x : Int))
              have HS4 := Lib.hid (hS3.far (p := ⟨P, k, none⟩) (Ne.symm hPS) (.int .i64 (x : Int)))
              have HO4 := Lib.hid (hon3.setCell (p := ⟨P, k, none⟩) (.inl (.inl rfl)) (.int .i64 (x : Int)))
              clear hP3 hS3 hon3 hQ3
              go_wp2_with fail
              go_ret
              exact ⟨true, _, _, rfl, HP4.out, HS4.out, by rw [List.length_set]; exact hsh.out.len, HO4.out, fun _ => HG.out, fun h => (by cases h)⟩
            · have hvt : decide (v < 0) = false := by simpa using hv0
              obtain ⟨y, rfl⟩ := Int.eq_ofNat_of_zero_le (by omega : 0 ≤ v)
              have hds := dark_set hb
              have hdl := dark_le hsh.out.len hsh.out.more
              have hiff := unseen_set hut
              have hIH := Lib.hid (ih (dark (u.set k true)) (by omega) (u.set k true) o y w2 rfl (j.only hon3 hoff) hQ3 hP3 hS3 lo1 (by rw [List.length_set, hsh.out.len]; exact lt1) (hf.sub fun g hg => hus g ((hiff g).1 hg).1)
                (fun g hg hy => ((hiff g).1 hg).2 (hf.inj g k y (hus g ((hiff g).1 hg).1) htk hy hv)) (hf.fit k y htk hv).1)
              have HV := Lib.hid hv
              have HD := Lib.hid hd
              clear hds hdl hv hd
              go_wp2_with fail
              refine hIH.out.mono ?_
              rintro e w3 ⟨b3, q, u3, rfl, hP4, hS4, hl3, hon4, hy3, hn3⟩
              have hon5 := hon3.trans hon4
              cases b3 with
              | true =>
                have HG := Lib.hid (Grew.wide hus hf hx (Grew.on (U := unseen u) hb hF HV.out (hf.sub hus) (fun g hg => hx g (hus g hg)) ((hy3 rfl).iff hiff)))
                have hkq : k < q.length := by rw [(hy3 rfl).len]; omega
                obtain ⟨v4, hv4⟩ : ∃ v, q[k]? = some v := ⟨_, List.getElem?_eq_getElem hkq⟩
                have hQ5 := hon4.blk hQ3 (by unfold two; omega)
                have hcQ5 := hQ5.cell
                have hlQ5 := hQ5.lt
                have hlP5 := hP4.lt
                have hcP5 := hP4.at_ hv4
                have hfP5 := hP4.frozen k
                have HP5 := Lib.hid (hP4.set_ k (x : Int))
                have HS5 := Lib.hid (hS4.far (p := ⟨P, k, none⟩) (Ne.symm hPS) (.int .i64 (x : Int)))
                have HO5 := Lib.hid (hon5.setCell (p := ⟨P, k, none⟩) (.inl (.inl rfl)) (.int .i64 (x : Int)))
                have HL := Lib.hid hl3
                clear hP4 hS4 hon4 hon5 hy3 hn3 hQ3 hP3 hS3 hon3 hcQ hcP hfP hv4 hl3
                go_wp2_with fail
                go_ret
                exact ⟨true, _, _, rfl, HP5.out, HS5.out, by rw [HL.out, List.length_set]; exact hsh.out.len, HO5.out, fun _ => HG.out, fun h => (by cases h)⟩
              | false =>
                obtain ⟨rfl, hsh3⟩ := hn3 rfl
                have HN := Lib.hid (hsh.out.next hut HV.out hsh3)
                clear hy3 hn3 hl3 hsh3 hcQ hcP hfP hQ3 hP3 hS3 hon3 hon4
                go_wp2_with fail
                go_roundw
                case rel => exact ⟨k + 1, u3, by omega, by go_num, hP4, hS4, HN.out, hon5⟩
                case measure => simp [intOf]; omega
          · have hfit' : fitB s h lo hi x k = false := by simpa using hfit
            rw [hfit'] at HM
            go_wp2_with fail
            refine HM.out.mono ?_
            rintro e w1 ⟨rfl, hb1⟩
            go_wp2_with fail
            go_roundw
            case rel => exact ⟨k + 1, u, by omega, by go_num, hP1.later hb1, hS1.later hb1, hsh.out.skip fun h => absurd ((fitB_iff hxs hlt).2 h) hfit, hon.below hb1⟩
            case measure => simp [intOf]; omega
      · obtain rfl : k = h.length := by omega
        go_wp2_with fail
        go_ret
        exact ⟨false, o, u, rfl, hP1, hS1, hsh.out.len, hon, fun h => (by cases h), fun _ => ⟨rfl, hsh.out.done fun g hg => hg.2.1⟩⟩
end Go.Proofs.YtpklcjbdmikbdaaGreat
namespace Go.Proofs.YtpklcjbdmikbdaaGreat
open Go.RowKit

theorem splice_fill {α : Type} (x z : α) (n m c : Nat) (h : n + c ≤ m) : splice (List.replicate n x ++ List.replicate (m - n) z) n (List.replicate c x) = List.replicate (n + c) x ++ List.replicate (m - (n + c)) z := by
  unfold splice
  rw [List.length_replicate, List.take_append_of_le_length (by simp), List.take_of_length_le (by simp)]
  rw [List.drop_append, List.length_replicate, List.drop_eq_nil_of_le (by simp), List.nil_append, List.drop_replicate, ← List.append_assoc, List.replicate_append_replicate]
  congr 2
  omega
theorem info_size3 : (Tryz.prog.info? 3).map (·.size) = some 1 := by kernel_rfl
theorem info_size4 : (Tryz.prog.info? 4).map (·.size) = some 1 := by kernel_rfl
/-- A row in the making: n of the element, then zeros. -/
def filled (x : Int) (n m : Nat) : List Value := (List.replicate n x ++ List.replicate (m - n) 0).map (Value.int .i64)
set_option maxRecDepth 100000 in
set_option maxHeartbeats 8000000 in
theorem repeat_ints (x : Int) (A m c : Nat) (w : World) (hA : RowB w A [x]) (hm : m ≤ 1000) :
    Calls Tryz.prog 63 #[.slice (some ⟨A, 0, none⟩) 1 c, .int .i64 (m : Int)] w fun e w' => e = .returned (.slice (some ⟨w.heap.size, 0, none⟩) m m) ∧ RowB w' w.heap.size (List.replicate m x) ∧ Below w.heap.size w w' := by
  have hmk := make_ints m (by omega) w
  have hmul : ∀ w, Calls Tryz.prog 82 #[.int .u64 (1 : Int), .int .u64 (m : Int)] w fun e w' => e = .returned (.tuple #[.int .u64 0, .int .u64 (m : Int)]) ∧ w = w' := fun w => (bits_Mul 1 m (by omega) (by omega) w).mono fun _ _ ⟨a, b⟩ =>
    ⟨by rw [show 1 * m / 18446744073709551616 = 0 by omega, show 1 * m % 18446744073709551616 = m by omega] at a; exact a, b.symm⟩
  have HM := Lib.hid hmul
  clear hmul
  have hlA := hA.lt
  go_enter Tryz.func63, Tryz.ntmps63
  go_wp2_with fail
  refine (HM.out _).mono ?_
  rintro e w1 ⟨rfl, rfl⟩
  go_upto_region 7 with fail
  have hb0 := (Below.refl w.heap.size w).alloc (Nat.le_refl _) (.cells (rowc (List.replicate m 0)) 3)
  have hN0 : (w.alloc (.cells (rowc (List.replicate m 0)) 3)).heap[w.heap.size]? = some (.cells (filled x 0 m).toArray 3 (0, 0)) := by
    have : (filled x 0 m).toArray = rowc (List.replicate m 0) := by unfold filled rowc; simp
    rw [this]; exact Blk.new w 3 _
  have hA0 := hA.later hb0
  revert hb0 hN0 hA0
  generalize hNe : w.heap.size = N
  generalize w.alloc (.cells (rowc (List.replicate m 0)) 3) = w0
  intro hb0 hN0 hA0
  clear hmk HM
  have hN1 : N < w0.heap.size := (Array.getElem?_eq_some_iff.1 hN0).1
  obtain ⟨C0, hC0⟩ : ∃ C0, C0 = (List.replicate (min 1 m) x).map (Value.int .i64) := ⟨_, rfl⟩
  have hn0 : C0.length = Nat.min 1 m := by rw [hC0, List.length_map, List.length_replicate]
  have hs0 : ∀ j v, C0[j]? = some v → w0.cell? ((⟨A, 0, none⟩ : Addr).add j) = some v := fun j v hj => by
    rw [hC0, List.getElem?_map, List.getElem?_replicate] at hj
    split at hj
    · rename_i hj2
      obtain rfl : j = 0 := by omega
      simp at hj
      subst hj
      exact hA0.at_ rfl
    · simp at hj
  have hf0 : 0 + C0.length ≤ (filled x 0 m).length := by rw [hn0, filled, List.length_map, List.length_append, List.length_replicate, List.length_replicate, show Nat.min 1 m = min 1 m from rfl]; omega
  have ho0 : ∀ v ∈ C0, v.oneCell' = true := by rw [hC0]; exact ints_one _
  have HS : Hid (splice (filled x 0 m) 0 C0 = filled x (min 1 m) m) := by
    show _ = _
    rw [hC0]
    have := splice_fill (Value.int .i64 x) (.int .i64 0) 0 m (min 1 m) (by omega)
    unfold filled
    simp only [List.map_append, List.map_replicate, Nat.sub_zero, Nat.zero_add] at this ⊢
    exact this
  have HL : Hid (C0.length = min 1 m) := by show _ = _; rw [hC0]; simp
  clear hC0
  go_wp2_with (with_reducible refine wpList_copy_splice rfl _ _ 43 43 rfl 3 Tryz.underlying43 info_size3 _ _ _ _ _ _ rfl rfl N 0 (filled x 0 m) 3 hN0 C0 hn0 (fun _ => ⟨rfl, _, rfl, hs0⟩) hf0 ho0 N w hb0 (Nat.le_refl _) ?_; intro w1 hN2 hb1)
  have HN : w1.heap[N]? = some (.cells (filled x (Nat.min 1 m) m).toArray 3 (0, 0)) := by rw [show Nat.min 1 m = min 1 m from rfl, ← HS.out]; exact hN2.out
  have hn1 : Nat.min 1 m ≤ m := Nat.min_le_right 1 m
  have hn2 : 0 < m → 0 < Nat.min 1 m := fun h => by rw [show Nat.min 1 m = min 1 m from rfl]; omega
  clear HL HS hN2 hs0 hf0 ho0 hn0 hN0 hN1 hA0 hb0
  revert HN hn1 hn2
  generalize Nat.min 1 m = n1
  intro HN hn1 hn2
  go_loopw [8] (fun v wr => ∃ n : Nat, n ≤ m ∧ Hid (0 < m → 0 < n) ∧ v = .int .i64 n ∧ Hid (wr.heap[N]? = some (.cells (filled x n m).toArray 3 (0, 0))) ∧ Below N w wr) (fun v _ => m - (intOf v).toNat)
  case atStart => exact ⟨n1, hn1, hn2, rfl, HN, hb1⟩
  case round =>
    clear HN hn1 hn2 hb1
    obtain ⟨n, hn, hp, rfl, hN, hb⟩ := hrel
    by_cases hlt : n < m
    · have hnp : 0 < n := hp.out (by omega)
      obtain ⟨c1, hc1⟩ : ∃ c1, c1 = min n (m - n) := ⟨_, rfl⟩
      have hc2 : n + c1 ≤ m := by omega
      have hc3 : 0 < c1 := by omega
      have hc4 : c1 ≤ n := by omega
      obtain ⟨C0, hC0⟩ : ∃ C0, C0 = (List.replicate c1 x).map (Value.int .i64) := ⟨_, rfl⟩
      have hn0 : C0.length = c1 := by rw [hC0]; simp
      have hN0 := hN.out
      have ho0 : ∀ v ∈ C0, v.oneCell' = true := by rw [hC0]; exact ints_one _
      have hf0 : n + C0.length ≤ (filled x n m).length := by rw [hn0]; simp [filled]; omega
      have HS : Hid (splice (filled x n m) n C0 = filled x (n + c1) m) := by
        show _ = _
        rw [hC0]
        have := splice_fill (Value.int .i64 x) (.int .i64 0) n m c1 hc2
        unfold filled
        simp only [List.map_append, List.map_replicate] at this ⊢
        exact this
      have HC := Lib.hid hC0
      have hl1 : C0.length ≤ 1000 := by omega
      have hl2 : n + C0.length ≤ m := by omega
      have hl3 : 0 < C0.length := by omega
      have HL := Lib.hid hn0
      have HC1 := Lib.hid hc1
      have HF := Lib.hid hf0
      clear hC0 hn0 hc1 hf0 hN0
      go_wp2_with fail
      have hN3 : wr.drew.heap[N]? = some (.cells (filled x n m).toArray 3 (0, 0)) := hN.out
      have hb3 : Below N w wr.drew := hb.trans (Below.refl _ _).drew
      have hne : ¬ m = n := by omega
      have hN1 : N < wr.drew.heap.size := (Array.getElem?_eq_some_iff.1 hN3).1
      have hn0 : C0.length = Nat.min n (m - n) := by rw [HL.out, HC1.out]
      have hs0 : ∀ j v, C0[j]? = some v → wr.drew.cell? ((⟨N, 0, none⟩ : Addr).add j) = some v := fun j v hj => by
        rw [HC.out, List.getElem?_map, List.getElem?_replicate] at hj
        split at hj
        · rename_i hj2
          simp at hj
          subst hj
          rw [Addr.add_lit, Nat.zero_add, cell_of_row wr.drew N j _ 3 (0, 0) hN3]
          unfold filled
          rw [List.getElem?_toArray, List.getElem?_map, List.getElem?_append_left (by simp; omega), List.getElem?_replicate, if_pos (by omega)]
          rfl
        · simp at hj
      have HN0 := Lib.hid hn0
      clear hn0
      go_region_law (refine step_copy_splice rfl (.tmp 41) (.tmp 44) 43 43 rfl 3 Tryz.underlying43 info_size3 (some ⟨N, n, none⟩) (some ⟨N, 0, none⟩) (m - n) (m - n) n m (by simp [Act.eval, Act.put]) (by simp [Act.eval, Act.put]) N n (filled x n m) 3 hN3 C0 HN0.out (fun _ => ⟨rfl, _, rfl, hs0⟩) HF.out ho0 N w hb3 (Nat.le_refl _) ?_; intro w4 hN4 hb4)
      all_goals
        have HN4 : Hid (w4.heap[N]? = some (.cells (filled x (n + C0.length) m).toArray 3 (0, 0))) := by
          show _ = _
          rw [HL.out, ← HS.out]
          exact hN4.out
        clear hN4 hN3 hs0
        simp only [Act.put, List.getElem_toArray, List.getElem_cons_succ, List.getElem_cons_zero, List.setIfInBounds_toArray, List.set_cons_succ, List.set_cons_zero, IntWalk.i64_in ((n : Int) + (C0.length : Int)) (by omega)]
        go_roundw
        case rel => (repeat apply Exists.intro); exact ⟨⟨n + C0.length, hl2, fun _ => by omega, by go_num, HN4.out, hb4⟩, rfl⟩
        case measure => simp [intOf]; omega
    · obtain rfl : n = m := by omega
      have HR : Hid (RowB wr N (List.replicate n x)) := by
        refine RowB.of ?_
        have h1 := hN.out
        unfold filled at h1
        rw [Nat.sub_self, List.replicate_zero, List.append_nil] at h1
        exact h1
      go_wp2_with fail
      go_ret
      rw [hNe]
      exact ⟨rfl, HR.out, hb⟩
end Go.Proofs.YtpklcjbdmikbdaaGreat
namespace Go.Proofs.YtpklcjbdmikbdaaGreat
open Go.RowKit

def riseC (l : List Int) (i j : Int) : Int := cmpI (l.getD i.toNat 0) (l.getD j.toNat 0)
theorem rise_swo (l : List Int) : Swo (riseC l) where
  asymm x y := by unfold riseC; rw [cmpI_neg, cmpI_neg]; omega
  neg x y z := by unfold riseC; rw [cmpI_neg, cmpI_neg, cmpI_neg]; omega
set_option maxHeartbeats 1000000 in
theorem riseCmp_any (A : Option Addr) (n c b i j : Nat) (l : List Int) (W : World) (h2 : Blk W b 43 #[.slice A n c]) (rA : RowH W A n l) (hi : i < n) (hj : j < n) :
    Calls Tryz.prog 66 #[.int .i64 i, .int .i64 j, .pointer (some ⟨b, 0, none⟩)] W fun e w' => e = .returned (.int .i64 (riseC l i j)) ∧ Below W.heap.size W w' := by
  obtain ⟨g, rfl, hg, x0⟩ := rA.at_ hi
  obtain ⟨g', e1, _, y0⟩ := rA.at_ hj
  cases e1
  have HS : Hid (riseC l i j = cmpI (l.getD i 0) (l.getD j 0)) := rfl
  have l2 := h2.lt
  have c2 := h2.cell
  have hij : (i : Int) < (n : Int) := by omega
  have hjj : (j : Int) < (n : Int) := by omega
  have HM := Lib.hid fun w => (compare_any (l.getD i 0) (l.getD j 0) w)
  have hxl := later_cell (w := W)
  clear rA h2
  generalize riseC l i j = q at *
  generalize cmpI (l.getD i 0) (l.getD j 0) = q2 at *
  generalize l.getD i 0 = a at *
  generalize l.getD j 0 = b at *
  go_enter Tryz.func66, Tryz.ntmps66
  go_wp2_with fail
  refine wp_region_later (by kernel_rfl) (by kernel_rfl) ?_
  repeat (go_big_quiet_step ((go_at_call 67; exact later_same (HM.out _))))
  refine wpQuiet_nil ?_
  rintro w2 ⟨⟨_, hb2⟩, rfl⟩
  go_wp2_with fail
  go_ret
  exact ⟨by rw [HS.out]; rfl, hb2⟩
theorem rise_cmp {w1 w0 : World} {A : Option Addr} {n c b R : Nat} {l : List Int} (h2 : Blk w1 b 43 #[.slice A n c]) (rA : RowH w1 A n l) (hb : Below w1.heap.size w1 w0) (hR : w1.heap.size ≤ R) :
    Cmp 66 #[.pointer (some ⟨b, 0, none⟩)] (riseC l) w0 R (fun x => 0 ≤ x ∧ x < (n : Int)) where
  enters := enters_of Tryz.func66 (by kernel_rfl) rfl
  tells := by
    rintro W hW x y ⟨x0, x1⟩ ⟨y0, y1⟩
    obtain ⟨i, rfl⟩ := Int.eq_ofNat_of_zero_le x0
    obtain ⟨j, rfl⟩ := Int.eq_ofNat_of_zero_le y0
    have hW' : Below w1.heap.size w1 W := hb.trans (below_of_only hW hR hb.size)
    exact riseCmp_any A n c b i j l W (h2.later hW') (rA.later hW') (by omega) (by omega)
/-- The numbers below k, then zeros. -/
def numz (k n : Nat) : List Int := nums k ++ List.replicate (n - k) 0
theorem numz_len {k n : Nat} (h : k ≤ n) : (numz k n).length = n := by unfold numz; rw [List.length_append, nums_length, List.length_replicate]; omega
theorem numz_set {k n : Nat} (h : k < n) : (numz k n).set k (k : Int) = numz (k + 1) n := by
  unfold numz
  rw [nums_succ, List.set_append_right _ _ (by rw [nums_length]; omega), nums_length, Nat.sub_self, show n - k = (n - (k + 1)) + 1 by omega, List.replicate_succ, List.set_cons_zero]
  simp
theorem nums_up (n : Nat) : (nums n).Pairwise (· ≤ ·) := by
  induction n with
  | zero => exact List.Pairwise.nil
  | succ n ih =>
    rw [nums_succ, List.pairwise_append]
    refine ⟨ih, by simp, fun a ha b hb => ?_⟩
    have := (mem_nums.1 ha).2
    simp at hb
    omega
/-- What rising returns. -/
def RiseR (w : World) (l : List Int) (n : Nat) (e : Ending) (w' : World) : Prop :=
  ∃ (R : Nat) (o : List Int), e = .returned (.slice (some ⟨R, 0, none⟩) n n) ∧ w.heap.size ≤ R ∧ RowB w' R o ∧ o.Perm (nums n) ∧ o.Pairwise (leOf (riseC l)) ∧ Below w.heap.size w w'
set_option maxRecDepth 100000 in
set_option maxHeartbeats 4000000 in
theorem rising_any (A : Option Addr) (n c : Nat) (l : List Int) (w : World) (rA : RowH w A n l) (hn : n ≤ 1000) : Calls Tryz.prog 43 #[.slice A n c] w (RiseR w l n) := by
  have hw1 : Below w.heap.size w (w.alloc (.cells #[.slice A n c] 43)) := (Below.refl _ _).alloc (Nat.le_refl _) _
  have k1 := Blk.new w 43 #[.slice A n c]
  have rA1 := rA.later hw1
  have hmk := make_ints n (by omega)
  have hc1 := k1.cell
  have hl1 := k1.lt
  go_enter Tryz.func43, Tryz.ntmps43
  go_upto_region 2 with fail
  have hsz : (w.alloc (.cells #[.slice A n c] 43)).heap.size = w.heap.size + 1 := by simp
  have hb2 : Below (w.alloc (.cells #[.slice A n c] 43)).heap.size (w.alloc (.cells #[.slice A n c] 43)) ((w.alloc (.cells #[.slice A n c] 43)).alloc (.cells (rowc (List.replicate n 0)) 3)) := (Below.refl _ _).alloc (Nat.le_refl _) _
  have hR : RowB ((w.alloc (.cells #[.slice A n c] 43)).alloc (.cells (rowc (List.replicate n 0)) 3)) (w.alloc (.cells #[.slice A n c] 43)).heap.size (numz 0 n) := RowB.of (Blk.new _ 3 _)
  clear hc1 hl1
  revert hb2 hR hw1 k1 rA1 hsz
  generalize (w.alloc (.cells #[.slice A n c] 43)).alloc (.cells (rowc (List.replicate n 0)) 3) = w2
  generalize w.alloc (.cells #[.slice A n c] 43) = w1
  generalize hRe : w1.heap.size = R
  generalize hN : w.heap.size = N
  intro hw1 k1 rA1 hsz hb2 hR
  subst hsz
  have HRe := Lib.hid hRe
  have HNe := Lib.hid hN
  have hc1 := k1.cell
  clear hRe hN
  clear hmk
  go_wp2_with fail
  go_loopw [10] (fun i wr => ∃ k : Nat, k ≤ n ∧ i = .int .i64 k ∧ RowB wr (N + 1) (numz k n) ∧ Below (N + 1) w1 wr) (fun i _ => n - (intOf i).toNat)
  case atStart => exact ⟨0, Nat.zero_le _, rfl, hR, hb2⟩
  case round =>
    clear hR hb2
    obtain ⟨k, hk, rfl, hR, hb2⟩ := hrel
    by_cases hlt : k < n
    · have hx : (numz k n)[k]? = some ((numz k n)[k]'(by rw [numz_len hk]; exact hlt)) := List.getElem?_eq_getElem _
      have hcR := hR.at_ hx
      have hfR := hR.frozen k
      have hlR := hR.lt
      have HS := Lib.hid (hR.set_ k (k : Int))
      rw [numz_set hlt] at HS
      have HB := Lib.hid (hb2.setCell (p := ⟨N + 1, k, none⟩) (Nat.le_refl _) (.int .i64 (k : Int)))
      clear hR hb2 hx
      go_wp2_with fail
      go_roundw
      case rel => exact ⟨k + 1, by omega, by go_num, HS.out, HB.out⟩
      case measure => simp [intOf]; omega
    · obtain rfl : k = n := by omega
      have hR' : RowB wr (N + 1) (nums k) := by
        have : numz k k = nums k := by unfold numz; simp
        rw [← this]; exact hR
      have hb3 : Below w1.heap.size w1 wr := by rw [HRe.out]; exact hb2
      have hsz3 := hb3.size
      have C := rise_cmp (R := N + 1) (w0 := wr) k1 rA1 hb3 (by rw [HRe.out]; exact Nat.le_refl _)
      have M2 := Lib.hid (sort_any C (rise_swo l).tot (nums k) k wr (fun x hx => mem_nums.1 hx) ((nums_up k).imp (fun {a b} h => Swo.agree h)) hR' (World.grownBy.refl _ _) k (nums_length k).symm hn)
      clear C hR' hR
      go_wp2_with fail
      refine M2.out.mono ?_
      rintro e2 w3 ⟨rfl, o, hP, hS, hB3, hg3⟩
      have HP := Lib.hid hP
      have HS := Lib.hid hS
      have hfin : Below N w w3 := hw1.trans ((hb3.trans (below_of_only hg3 (by rw [HRe.out]; exact Nat.le_refl _) hb3.size)).mono (by rw [HRe.out]; exact Nat.le_succ _))
      clear M2 hP hS hg3
      go_wp2_with fail
      go_ret
      exact ⟨N + 1, o, rfl, by rw [HNe.out]; exact Nat.le_succ _, hB3, HP.out, HS.out, by rw [HNe.out]; exact hfin⟩
end Go.Proofs.YtpklcjbdmikbdaaGreat
namespace Go.Proofs.YtpklcjbdmikbdaaGreat
open Go.RowKit

/-- What a greatest pairing is in memory. -/
def MostR (J : Nat) (s h : List Int) (lo hi : Int) (w : World) (e : Ending) (w' : World) : Prop :=
  ∃ (Q P : Nat) (sv : Value) (c1 n : Nat) (o : List Int), e = .returned (.tuple #[.pointer (some ⟨Q, 0, none⟩), .int .i64 n]) ∧ Blk w' Q 114 #[.pointer (some ⟨J, 0, none⟩), .slice (some ⟨P, 0, none⟩) h.length c1, sv] ∧
    RowB w' P o ∧ Upto (fitP s h lo hi) h.length s.length o n ∧ w.heap.size ≤ Q ∧ w.heap.size ≤ P ∧ P ≠ Q ∧ Below w.heap.size w w'
theorem unseen_rep {m k : Nat} : unseen (List.replicate m false) k ↔ k < m := by
  unfold unseen
  rw [List.getElem?_replicate]
  split <;> simp_all
theorem fine_iff {F : Nat → Nat → Prop} {U U' : Nat → Prop} {o : List Int} (h : Fine F U o) (e : ∀ k, U' k ↔ U k) : Fine F U' o := h.sub fun k hk => (e k).1 hk
set_option maxRecDepth 100000 in
set_option maxHeartbeats 8000000 in
theorem most_any {J : Nat} {As Ah : Option Addr} {cs ch : Nat} {s h : List Int} {lo hi : Int} (w : World) (j : JobW w J As Ah cs ch s h lo hi) (hs : Sizes s) (hh : Sizes h) (l1 : s.length ≤ 64) (l2 : h.length ≤ 70) :
    Calls Tryz.prog 42 #[.pointer (some ⟨J, 0, none⟩)] w (MostR J s h lo hi w) := by
  have hcJ := j.blk.cell
  have hlJ := j.blk.lt
  have hA0 : Below w.heap.size w (w.alloc (.cells #[.int .i64 (-1)] 3)) := (Below.refl _ _).alloc (Nat.le_refl _) _
  have hrA : RowB (w.alloc (.cells #[.int .i64 (-1)] 3)) w.heap.size [-1] := RowB.of (Blk.new w 3 _)
  have HR := Lib.hid (repeat_ints (-1) w.heap.size h.length 1 _ hrA (by omega))
  go_enter Tryz.func42, Tryz.ntmps42
  go_wp2_with fail
  refine HR.out.mono ?_
  rintro e w1 ⟨rfl, hP1, hb1⟩
  go_upto_region 2 with fail
  have hsz : (w.alloc (.cells #[.int .i64 (-1)] 3)).heap.size = w.heap.size + 1 := by simp
  rw [hsz] at hP1 hb1
  have hw1 : Below w.heap.size w w1 := hA0.trans (hb1.mono (Nat.le_succ _))
  have hq0 := Blk.new w1 114 #[.pointer (some ⟨J, 0, none⟩), .slice (some ⟨w.heap.size + 1, 0, none⟩) h.length h.length, .slice none 0 0]
  have hlP := hP1.lt
  have hbq : Below w1.heap.size w1 (w1.alloc (.cells #[.pointer (some ⟨J, 0, none⟩), .slice (some ⟨w.heap.size + 1, 0, none⟩) h.length h.length, .slice none 0 0] 114)) := (Below.refl _ _).alloc (Nat.le_refl _) _
  have hP2 := hP1.later hbq
  have hw2 := hw1.trans (hbq.mono hw1.size)
  have hsq := hbq.size
  clear hcJ hA0 hrA HR hsz hb1 hP1 hbq
  revert hq0 hP2 hw2 hlP hsq
  generalize w1.alloc (.cells #[.pointer (some ⟨J, 0, none⟩), .slice (some ⟨w.heap.size + 1, 0, none⟩) h.length h.length, .slice none 0 0] 114) = w2
  generalize w1.heap.size = Q
  generalize hPe : w.heap.size + 1 = P
  intro hq0 hlP hP2 hw2 hsq
  have hNP : w.heap.size ≤ P := by omega
  have hNQ : w.heap.size ≤ Q := by omega
  have hPQ : P ≠ Q := by omega
  clear hPe hw1 hsq hlP
  have j2 := j.later hw2
  have hcJ := j2.blk.cell
  have hlJ2 := j2.blk.lt
  go_wp2_with fail
  go_loopw [25, 6] (fun i c wr => ∃ (k n : Nat) (o : List Int) (sv : Value), k ≤ s.length ∧ n ≤ k ∧ i = .int .i64 k ∧ c = .int .i64 n ∧ Blk wr Q 114 #[.pointer (some ⟨J, 0, none⟩), .slice (some ⟨P, 0, none⟩) h.length h.length, sv] ∧ RowB wr P o ∧ Hid (Upto (fitP s h lo hi) h.length k o n) ∧ Below w.heap.size w wr) (fun i _ _ => s.length - (intOf i).toNat)
  case atStart => exact ⟨0, 0, _, _, Nat.zero_le _, Nat.le_refl _, rfl, rfl, hq0, hP2, Upto.first _ _, hw2⟩
  case round =>
    clear hq0 hP2 hw2 j2 hcJ hlJ2
    obtain ⟨k, n, o, sv, hk, hnk, rfl, rfl, hQ, hP, hU, hb⟩ := hrel
    have jr := j.later hb
    by_cases hlt : k < s.length
    · have hmk := make_bools h.length (by omega)
      have hcQ := hQ.cell
      have hfQ := hQ.frozen 2
      have hlQ := hQ.lt
      have hcJ := jr.blk.cell
      have hlJr := jr.blk.lt
      go_upto_region 8 with fail
      have hlP := hP.lt
      have hnb := hb.size
      have hsz : (wr.setCell ⟨Q, 2, none⟩ (.slice (some ⟨wr.heap.size, 0, none⟩) h.length h.length)).heap.size = wr.heap.size := by simp [World.setCell]
      have hQ5 : Blk ((wr.setCell ⟨Q, 2, none⟩ (.slice (some ⟨wr.heap.size, 0, none⟩) h.length h.length)).alloc (.cells (boolr (List.replicate h.length false)) 4)) Q 114 #[.pointer (some ⟨J, 0, none⟩), .slice (some ⟨P, 0, none⟩) h.length h.length, .slice (some ⟨wr.heap.size, 0, none⟩) h.length h.length] :=
        (hQ.set_ 2 (.slice (some ⟨wr.heap.size, 0, none⟩) h.length h.length)).alloc _
      have hS5 := RowO.new (wr.setCell ⟨Q, 2, none⟩ (.slice (some ⟨wr.heap.size, 0, none⟩) h.length h.length)) h.length
      rw [hsz] at hS5
      have hb5 := (hb.setCell (p := ⟨Q, 2, none⟩) hNQ (.slice (some ⟨wr.heap.size, 0, none⟩) h.length h.length)).alloc (by rw [hsz]; exact hnb) (.cells (boolr (List.replicate h.length false)) 4)
      have hP5 := (hP.far (p := ⟨Q, 2, none⟩) hPQ (.slice (some ⟨wr.heap.size, 0, none⟩) h.length h.length)).later ((Below.refl _ _).alloc (Nat.le_refl _) (.cells (boolr (List.replicate h.length false)) 4))
      clear hsz hcQ hfQ hcJ hlJr hmk jr hQ hP hb
      revert hQ5 hS5 hb5 hP5 hlP hnb hlQ
      generalize (wr.setCell ⟨Q, 2, none⟩ (.slice (some ⟨wr.heap.size, 0, none⟩) h.length h.length)).alloc (.cells (boolr (List.replicate h.length false)) 4) = w5
      generalize wr.heap.size = S
      intro hlQ hlP hnb hQ5 hS5 hb5 hP5
      have j5 := j.later hb5
      have hU0 := hU.out
      have hoff : JobOff (two P S) J As Ah s h := j.off fun g hg ht => by
        rcases ht with rfl | rfl <;> omega
      have HF := Lib.hid (find_any hs hh (by omega) Q P S h.length h.length (by omega) (by omega) (by omega) hoff _ _ o k w5 rfl j5 hQ5 hP5 hS5 hU0.len (by simp) (fine_iff hU0.fine fun g => unseen_rep) (fun g _ hg => by have := hU0.lt g k hg; omega) hlt)
      clear hU0 j5 hS5 hP5
      go_wp2_with fail
      refine HF.out.mono ?_
      rintro e w6 ⟨b, q, u, rfl, hP6, hS6, hl6, hon, hy, hn⟩
      clear HF hS6
      have hQ6 := hon.blk hQ5 (by unfold two; omega)
      have hb6 : Below w.heap.size w w6 := hb5.trans (hon.to_below hb5.size (fun g hg => by rcases hg with rfl | rfl <;> omega))
      cases b with
      | true =>
        have HU6 : Hid (Upto (fitP s h lo hi) h.length (k + 1) q (n + 1)) := hU.out.yes ((hy rfl).iff fun g => unseen_rep)
        clear hy hn hon hQ5 hb5 hU
        go_wp2_with fail
        go_roundw
        case rel => exact ⟨k + 1, n + 1, q, _, by omega, by omega, by go_num, by go_num, hQ6, hP6, HU6, hb6⟩
        case measure => simp [intOf]; omega
      | false =>
        obtain ⟨rfl, hsh⟩ := hn rfl
        have HU6 : Hid (Upto (fitP s h lo hi) h.length (k + 1) q n) := hU.out.no rfl hsh
        clear hy hn hon hQ5 hb5 hU hsh
        go_wp2_with fail
        go_roundw
        case rel => exact ⟨k + 1, n, q, _, by omega, by omega, by go_num, rfl, hQ6, hP6, HU6, hb6⟩
        case measure => simp [intOf]; omega
    · obtain rfl : k = s.length := by omega
      go_wp2_with fail
      go_ret2
      exact ⟨Q, P, sv, h.length, n, o, rfl, hQ, hP, hU.out, hNQ, hNP, hPQ, hb⟩
end Go.Proofs.YtpklcjbdmikbdaaGreat
