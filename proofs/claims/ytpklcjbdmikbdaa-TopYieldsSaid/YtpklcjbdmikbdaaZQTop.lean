/-
Proved: TopYields: if the span of a stack is cut into needs next to each other, their yields add up to 1, exactly.
  Conditions: none.
-/
import Derived.Test.YtpklcjbdmikbdaaGW
import Derived.Deep.RegionHeld
import Derived.Test.YtpklcjbdmikbdaaGQ
import Derived.Test.YtpklcjbdmikbdaaGO
namespace Go.Proofs.Ytpklcjbdmikbdaa

/-- A numerator in lowest terms. -/
def lowN (n d : Nat) : Nat := n / n.gcd d
/-- A denominator in lowest terms. -/
def lowD (n d : Nat) : Nat := d / n.gcd d
theorem lowN_mul (n d k : Nat) (hk : 0 < k) : lowN (n * k) (d * k) = lowN n d := by
  unfold lowN
  rw [Nat.gcd_mul_right, Nat.mul_div_mul_right _ _ hk]
theorem lowD_mul (n d k : Nat) (hk : 0 < k) : lowD (n * k) (d * k) = lowD n d := by
  unfold lowD
  rw [Nat.gcd_mul_right, Nat.mul_div_mul_right _ _ hk]
theorem lowN_back (n d : Nat) : lowN n d * n.gcd d = n := Nat.div_mul_cancel (Nat.gcd_dvd_left _ _)
theorem lowD_back (n d : Nat) : lowD n d * n.gcd d = d := Nat.div_mul_cancel (Nat.gcd_dvd_right _ _)
theorem lowN_le (n d : Nat) : lowN n d ≤ n := Nat.div_le_self _ _
theorem lowD_le (n d : Nat) : lowD n d ≤ d := Nat.div_le_self _ _
theorem low_pos {n d : Nat} (hd : 0 < d) : 0 < n.gcd d := Nat.gcd_pos_of_pos_right _ hd
theorem lowD_pos {n d : Nat} (hd : 0 < d) : 0 < lowD n d := by
  have := lowD_back n d
  rcases Nat.eq_zero_or_pos (lowD n d) with h | h
  · rw [h] at this; omega
  · exact h
theorem low_gcd {n d : Nat} (hd : 0 < d) : (lowN n d).gcd (lowD n d) = 1 := by
  unfold lowN lowD
  rw [Nat.gcd_div (Nat.gcd_dvd_left _ _) (Nat.gcd_dvd_right _ _), Nat.div_self (low_pos hd)]
/-- The sum of two fractions with one denominator. -/
theorem low_add {a b d : Nat} (hd : 0 < d) : lowN (lowN a d * lowD b d + lowN b d * lowD a d) (lowD a d * lowD b d) = lowN (a + b) d ∧ lowD (lowN a d * lowD b d + lowN b d * lowD a d) (lowD a d * lowD b d) = lowD (a + b) d := by
  have g1 := low_pos (n := a) hd
  have g2 := low_pos (n := b) hd
  have hk : 0 < a.gcd d * b.gcd d := Nat.mul_pos g1 g2
  have e1 : (lowN a d * lowD b d + lowN b d * lowD a d) * (a.gcd d * b.gcd d) = (a + b) * d := by
    have h1 : lowN a d * lowD b d * (a.gcd d * b.gcd d) = a * d := by
      rw [show lowN a d * lowD b d * (a.gcd d * b.gcd d) = (lowN a d * a.gcd d) * (lowD b d * b.gcd d) by simp only [Nat.mul_comm, Nat.mul_left_comm, Nat.mul_assoc], lowN_back, lowD_back]
    have h2 : lowN b d * lowD a d * (a.gcd d * b.gcd d) = b * d := by
      rw [show lowN b d * lowD a d * (a.gcd d * b.gcd d) = (lowN b d * b.gcd d) * (lowD a d * a.gcd d) by simp only [Nat.mul_comm, Nat.mul_left_comm, Nat.mul_assoc], lowN_back, lowD_back]
    rw [Nat.add_mul, h1, h2, Nat.add_mul]
  have e2 : lowD a d * lowD b d * (a.gcd d * b.gcd d) = d * d := by
    rw [show lowD a d * lowD b d * (a.gcd d * b.gcd d) = (lowD a d * a.gcd d) * (lowD b d * b.gcd d) by simp only [Nat.mul_comm, Nat.mul_left_comm, Nat.mul_assoc], lowD_back, lowD_back]
  constructor
  · rw [← lowN_mul _ _ _ hk, e1, e2, lowN_mul _ _ _ hd]
  · rw [← lowD_mul _ _ _ hk, e1, e2, lowD_mul _ _ _ hd]
theorem low_zero {d : Nat} (hd : 0 < d) : lowN 0 d = 0 ∧ lowD 0 d = 1 := by
  unfold lowN lowD
  rw [Nat.gcd_zero_left, Nat.zero_div, Nat.div_self hd]
  exact ⟨rfl, rfl⟩
theorem low_all {d : Nat} (hd : 0 < d) : lowN d d = 1 ∧ lowD d d = 1 := by
  unfold lowN lowD
  rw [Nat.gcd_self, Nat.div_self hd]
  exact ⟨rfl, rfl⟩
/-- Comparing in lowest terms is comparing. -/
theorem low_cmp {a b c d : Nat} (hb : 0 < b) (hd : 0 < d) : (lowN a b * lowD c d ≤ lowN c d * lowD a b ↔ a * d ≤ c * b) := by
  have hk : 0 < a.gcd b * c.gcd d := Nat.mul_pos (low_pos hb) (low_pos hd)
  have h1 : lowN a b * lowD c d * (a.gcd b * c.gcd d) = a * d := by
    rw [show lowN a b * lowD c d * (a.gcd b * c.gcd d) = (lowN a b * a.gcd b) * (lowD c d * c.gcd d) by simp only [Nat.mul_comm, Nat.mul_left_comm, Nat.mul_assoc], lowN_back, lowD_back]
  have h2 : lowN c d * lowD a b * (a.gcd b * c.gcd d) = c * b := by
    rw [show lowN c d * lowD a b * (a.gcd b * c.gcd d) = (lowN c d * c.gcd d) * (lowD a b * a.gcd b) by simp only [Nat.mul_comm, Nat.mul_left_comm, Nat.mul_assoc], lowN_back, lowD_back]
  rw [← h1, ← h2]
  exact ⟨fun h => Nat.mul_le_mul_right _ h, fun h => Nat.le_of_mul_le_mul_right h hk⟩
end Go.Proofs.Ytpklcjbdmikbdaa
namespace Go.Proofs.Ytpklcjbdmikbdaa
open Go.RowKit

set_option maxHeartbeats 4000000 in
theorem gsize_any (n : Nat) (w : World) (hn : n < 9223372036854775808) : Calls Try.prog 72 #[.int .i64 (n : Int)] w fun e w' => e = .returned (.int .u64 (n : Int)) ∧ w = w' := by
  have h0 : decide ((n : Int) < 0) = false := by simp
  have hn2 : (n : Int) < 9223372036854775808 := by omega
  go_enter Try.func72, Try.ntmps72
  go_wp2_with fail
  go_ret
  exact ⟨rfl, rfl⟩
set_option maxRecDepth 100000 in
set_option maxHeartbeats 4000000 in
theorem gcd_any (a b : Nat) (w : World) (ha : a < 18446744073709551616) (hb : b < 18446744073709551616) : Calls Try.prog 73 #[.int .u64 (a : Int), .int .u64 (b : Int)] w fun e w' => e = .returned (.int .u64 ((a.gcd b : Nat) : Int)) ∧ Below w.heap.size w w' := by
  go_enter Try.func73, Try.ntmps73
  go_wp2_with fail
  go_loopg [0, 1] b (fun k u v wr => ∃ x : Nat, u = .int .u64 (x : Int) ∧ v = .int .u64 (k : Int) ∧ Hid (x.gcd k = a.gcd b) ∧ x < 18446744073709551616 ∧ k < 18446744073709551616 ∧ Below w.heap.size w wr)
  case atStart => exact ⟨a, rfl, rfl, rfl, ha, hb, Below.refl _ _⟩
  case round =>
    obtain ⟨x, rfl, rfl, hg, hx, hk, hbw⟩ := hrel
    clear ha hb
    rcases Nat.eq_zero_or_pos gk with h0 | h0
    · have hd : decide ((gk : Int) > 0) = false := decide_eq_false (by omega)
      have HF : Hid (x = a.gcd b) := by
        have := hg.out
        rw [h0, Nat.gcd_zero_right] at this
        exact this
      have hn : ¬ 0 < gk := by omega
      clear hg h0 hd
      go_wp2_with fail
      go_ret
      exact ⟨by rw [← HF.out]; rfl, hbw⟩
    · have hd : decide ((gk : Int) > 0) = true := decide_eq_true (by omega)
      have hz : ((gk : Int) == 0) = false := by simp; omega
      obtain ⟨r, hr⟩ : ∃ r, r = x % gk := ⟨_, rfl⟩
      have hrk : r < gk := by rw [hr]; exact Nat.mod_lt _ h0
      have HG : Hid (gk.gcd r = a.gcd b) := by
        show _ = _
        rw [hr, ← hg.out, Nat.gcd_comm x gk, Nat.gcd_rec gk x, Nat.gcd_comm]
      have HR : Hid ((x : Int) % (gk : Int) = (r : Int)) := by show _ = _; rw [hr, Int.natCast_emod]
      clear hr hg hd
      go_wp2_with fail
      go_region
      rw [HR.out]
      go_wp2_with fail
      go_roundg r
      case measure => exact hrk
      case rel => exact ⟨gk, rfl, rfl, HG.out, hk, by omega, hbw.drew⟩
/-- A fraction in memory. -/
def FracAt (w : World) (g q n d : Nat) : Prop := w.cell? ⟨g, q, none⟩ = some (.int .i64 (n : Int)) ∧ w.cell? ⟨g, q + 1, none⟩ = some (.int .i64 (d : Int))
/-- A valid fraction that is not below 0. -/
def FracOk (n d : Nat) : Prop := 0 < d ∧ d ≤ 4611686018427387904 ∧ n ≤ 4611686018427387904 ∧ n.gcd d = 1
set_option maxRecDepth 100000 in
set_option maxHeartbeats 8000000 in
theorem fvalid_any (g m : Nat) (w : World) (hm : m ≤ 100) (hg : g < w.heap.size) (h : ∀ k, k < m → ∃ n d, FracAt w g (k * 2) n d ∧ FracOk n d) : Calls Try.prog 49 #[.slice (some ⟨g, 0, none⟩) m m] w fun e w' => e = .returned (.bool true) ∧ Below w.heap.size w w' := by
  have HH := Lib.hid h
  clear h
  go_enter Try.func49, Try.ntmps49
  go_wp2_with fail
  go_loopw [7] (fun i wr => ∃ k : Nat, k ≤ m ∧ i = .int .i64 (k : Int) ∧ Below w.heap.size w wr) (fun i _ => m - (intOf i).toNat)
  case atStart => exact ⟨0, Nat.zero_le _, rfl, Below.refl _ _⟩
  case round =>
    obtain ⟨k, hk, rfl, hb⟩ := hrel
    by_cases hlt : k < m
    · obtain ⟨n, d, ⟨q1, q2⟩, h1, h2, h3, h4⟩ := HH.out k hlt
      have hkm : (k : Int) < (m : Int) := by omega
      have p1 := (hb.cell (p := ⟨g, k * 2, none⟩) hg).trans q1
      have p2 := (hb.cell (p := ⟨g, k * 2 + 1, none⟩) hg).trans q2
      have hgr : g < wr.heap.size := Nat.lt_of_lt_of_le hg hb.size
      have d1 : decide ((d : Int) < 1) = false := decide_eq_false (by omega)
      have d2 : decide ((d : Int) > 4611686018427387904) = false := decide_eq_false (by omega)
      have d3 : decide ((n : Int) > 4611686018427387904) = false := decide_eq_false (by omega)
      have kP := Blk.new wr 31 #[.int .i64 (n : Int), .int .i64 (d : Int)]
      have hba : Below wr.heap.size wr (wr.alloc (.cells #[.int .i64 (n : Int), .int .i64 (d : Int)] 31)) := (Below.refl _ _).alloc (Nat.le_refl _) _
      have hb2 := hb.trans (hba.mono hb.size)
      have HS1 : Hid (∀ w, _) := fun w => gsize_any n w (by omega)
      have HS2 : Hid (∀ w, _) := fun w => gsize_any d w (by omega)
      have HS3 : Hid (∀ w, _) := fun w => gcd_any n d w (by omega) (by omega)
      rw [h4] at HS3
      clear q1 q2 h1 h2 h3 h4
      go_upto_region 4 with fail
      clear p1 p2 hba
      revert kP hb2
      generalize wr.alloc (.cells #[.int .i64 (n : Int), .int .i64 (d : Int)] 31) = w2
      generalize wr.heap.size = Pb
      intro kP hb2
      have cP := kP.cell
      have lP := kP.lt
      have HT1 : Hid (∀ x : Later w2, Hid (Calls Try.prog 72 #[.int .i64 (n : Int)] x.val fun e w' => e = .returned (.int .u64 (n : Int)) ∧ ∃ y : Later w2, w' = y.val)) := fun x => later_same (HS1.out x.val)
      have HT2 : Hid (∀ x : Later w2, Hid (Calls Try.prog 72 #[.int .i64 (d : Int)] x.val fun e w' => e = .returned (.int .u64 (d : Int)) ∧ ∃ y : Later w2, w' = y.val)) := fun x => later_same (HS2.out x.val)
      have HT3 : Hid (∀ x : Later w2, Hid (Calls Try.prog 73 #[.int .u64 (n : Int), .int .u64 (d : Int)] x.val fun e w' => e = .returned (.int .u64 ((1 : Nat) : Int)) ∧ ∃ y : Later w2, w' = y.val)) := fun x => later_call (HS3.out x.val)
      have hxl := later_cell (w := w2)
      clear HS1 HS2 HS3
      go_wp2_with fail
      refine wp_region_later (by kernel_rfl) (by kernel_rfl) ?_
      repeat (go_big_quiet_step (first | (go_at_call 73; exact (HT3.out _).out) | (go_at_call 72; first | (with_reducible exact (HT1.out _).out) | (with_reducible exact (HT2.out _).out))))
      refine wpQuiet_nil ?_
      rintro w6 ⟨⟨_, hbc⟩, rfl⟩
      have hb6 := hb2.trans (hbc.mono hb2.size)
      clear HT1 HT2 HT3 hxl
      go_wp2_with fail
      go_roundw
      case rel => exact ⟨k + 1, by omega, by go_num, hb6⟩
      case measure => simp [intOf]; omega
    · obtain rfl : k = m := by omega
      go_wp2_with fail
      go_ret
      exact ⟨rfl, hb⟩
end Go.Proofs.Ytpklcjbdmikbdaa
namespace Go.Proofs.Ytpklcjbdmikbdaa
open Go.RowKit

theorem held_var {P : Program} {ops : Array Oper} {Q : Exit → Act → World → Prop} {S : World → Prop} {id : Nat} {a : Act} {w : World} (hm : P.follows .mixedOrders = true) (hS : S w.drew)
    (h : ∀ V, V = w.drew → S V → wpAnyH P .any ops Q S ops.size (Array.replicate ops.size false) a V) : (Code.region id ops true).wp P Q a w := wp_region_held_drew hm hS (h _ rfl)
/-- Limbs as cells. -/
def rowu (l : List Nat) : Array Value := (l.map fun (x : Nat) => Value.int .u32 (x : Int)).toArray
theorem info128 : (Try.prog.info? 128).map (fun i => (i.zero, i.size, i.bytes)) = some (some (.int .u32 0), 1, 4) := by kernel_rfl
theorem make_u32 (n : Nat) (hn : n ≤ 100000) (w : World) : (Instr.makeSlice 75 (.int .i64 (n : Int)) (.int .i64 (n : Int))).run Try.prog w = .ok (.slice (some ⟨w.heap.size, 0, none⟩) n n) (w.alloc (.cells (rowu (List.replicate n 0)) 128)) := by
  obtain ⟨i0, hi, hz0, hz1, hz2⟩ := info_parts info128
  have hr := run_make (P := Try.prog) w 75 128 i0 (.int .u32 0) Try.underlying75 hi hz0 .i64 .i64 n n (by omega) (Int.le_refl _) (by rw [hz2]; omega) (by omega)
  simp only [Int.toNat_natCast] at hr
  rw [hr, hz1, Nat.mul_one]
  have e : madeCells (Value.int .u32 0).cells n = rowu (List.replicate n 0) := by
    apply Array.toList_inj.1
    have := toList_madeCells_one (.int .u32 0) n
    show (madeCells #[.int .u32 0] n).toList = _
    rw [this]
    simp [rowu]
  rw [e]
theorem rowU_of {w : World} {g c : Nat} {l : List Nat} (h : Blk w g c (rowu l)) : RowU w (some ⟨g, 0, none⟩) l.length l :=
  ⟨rfl, fun _ => ⟨g, rfl, h.lt, fun k v hk => by rw [h.cell k]; simp [rowu, hk]⟩⟩
theorem mag_one {w : World} {v : Value} {a : Nat} (h : MagW w v a) (h0 : 0 < a) (h1 : a < 4294967296) : ∃ g c, v = .slice (some ⟨g, 0, none⟩) 1 c ∧ g < w.heap.size ∧ w.cell? ⟨g, 0, none⟩ = some (.int .u32 (a : Int)) := by
  obtain ⟨A, c, e, hr⟩ := h
  have hl : limbs a = [a] := by rw [limbs_pos h0, Nat.mod_eq_of_lt h1, Nat.div_eq_of_lt h1, limbs_zero]
  rw [hl] at e hr
  obtain ⟨g, e2, hg, hc⟩ := hr.2 (by simp)
  subst e2
  exact ⟨g, c, e, hg, hc 0 a rfl⟩
theorem mag_zero {w : World} {v : Value} (h : MagW w v 0) : ∃ A c, v = .slice A 0 c := by
  obtain ⟨A, c, e, _⟩ := h
  rw [limbs_zero] at e
  exact ⟨A, c, e⟩
theorem two_of {p : Nat} (h : p < 18446744073709551616) : Limb [p % 4294967296, p / 4294967296] ∧ val [p % 4294967296, p / 4294967296] = p := two_limbs h
/-- What is returned: an integer that is not below 0. -/
def IntR (w : World) (k : Nat) (e : Ending) (w' : World) : Prop := ∃ v, e = .returned (.agg #[.bool false, v]) ∧ MagW w' v k ∧ Below w.heap.size w w'
set_option maxRecDepth 100000 in
set_option maxHeartbeats 8000000 in
theorem mul_pos (ga gb ca cb a b : Nat) (w : World) (hga : ga < w.heap.size) (hgb : gb < w.heap.size) (qa : w.cell? ⟨ga, 0, none⟩ = some (.int .u32 (a : Int))) (qb : w.cell? ⟨gb, 0, none⟩ = some (.int .u32 (b : Int))) (ha : a < 4294967296) (hb : b < 4294967296) :
    Calls Try.prog 75 #[.agg #[.bool false, .slice (some ⟨ga, 0, none⟩) 1 ca], .agg #[.bool false, .slice (some ⟨gb, 0, none⟩) 1 cb]] w (IntR w (a * b)) := by
  have hmk : ∀ w, (Instr.makeSlice 75 (.int .i64 2) (.int .i64 2)).run Try.prog w = .ok (.slice (some ⟨w.heap.size, 0, none⟩) 2 2) (w.alloc (.cells #[.int .u32 0, .int .u32 0] 128)) := fun w => make_u32 2 (by omega) w
  obtain ⟨p, hp⟩ : ∃ p, p = a * b := ⟨_, rfl⟩
  have hpb : p < 18446744073709551616 := by
    rw [hp]
    have := Nat.mul_le_mul (show a ≤ 4294967295 by omega) (show b ≤ 4294967295 by omega)
    omega
  have hmul : (a : Int) * (b : Int) = (p : Int) := by rw [hp]; push_cast; rfl
  have HM := Lib.hid hmul
  rw [← hp]
  clear hp hmul
  obtain ⟨l0, hl0⟩ : ∃ q, p % 4294967296 = q := ⟨_, rfl⟩
  obtain ⟨l1, hl1⟩ : ∃ q, p / 4294967296 = q := ⟨_, rfl⟩
  have HL0 : Hid ((p : Int) % 4294967296 = (l0 : Int)) := by show _ = _; omega
  have HL1 : Hid ((p : Int) / 4294967296 = (l1 : Int)) := by show _ = _; omega
  have HV : Hid (Limb [l0, l1] ∧ val [l0, l1] = p) := by rw [← hl0, ← hl1]; exact two_of hpb
  have b0 : l0 < 4294967296 := by omega
  have b1 : l1 < 4294967296 := by omega
  clear hl0 hl1
  have e3 : ((w.alloc (.cells #[.bool false, .slice (some ⟨ga, 0, none⟩) 1 ca] 77)).alloc (.cells #[.bool false, .slice (some ⟨gb, 0, none⟩) 1 cb] 77)).heap.size = w.heap.size + 2 := by simp
  have e1 : (w.alloc (.cells #[.bool false, .slice (some ⟨ga, 0, none⟩) 1 ca] 77)).heap.size = w.heap.size + 1 := by simp
  have kA := ((Blk.new w 77 #[.bool false, .slice (some ⟨ga, 0, none⟩) 1 ca]).alloc (.cells #[.bool false, .slice (some ⟨gb, 0, none⟩) 1 cb] 77)).alloc (.cells #[.bool false, .slice none 0 0] 77)
  have kB := (Blk.new (w.alloc (.cells #[.bool false, .slice (some ⟨ga, 0, none⟩) 1 ca] 77)) 77 #[.bool false, .slice (some ⟨gb, 0, none⟩) 1 cb]).alloc (.cells #[.bool false, .slice none 0 0] 77)
  have kR := Blk.new ((w.alloc (.cells #[.bool false, .slice (some ⟨ga, 0, none⟩) 1 ca] 77)).alloc (.cells #[.bool false, .slice (some ⟨gb, 0, none⟩) 1 cb] 77)) 77 #[.bool false, .slice none 0 0]
  rw [e1] at kB
  rw [e3] at kR
  have hb1 : Below w.heap.size w (((w.alloc (.cells #[.bool false, .slice (some ⟨ga, 0, none⟩) 1 ca] 77)).alloc (.cells #[.bool false, .slice (some ⟨gb, 0, none⟩) 1 cb] 77)).alloc (.cells #[.bool false, .slice none 0 0] 77)) :=
    (((Below.refl _ _).alloc (Nat.le_refl _) _).alloc (by simp) _).alloc (by simp; omega) _
  clear e1 e3
  go_enter Try.func75, Try.ntmps75
  go_upto_region 1 with fail
  revert kA kB kR hb1
  generalize ((w.alloc (.cells #[.bool false, .slice (some ⟨ga, 0, none⟩) 1 ca] 77)).alloc (.cells #[.bool false, .slice (some ⟨gb, 0, none⟩) 1 cb] 77)).alloc (.cells #[.bool false, .slice none 0 0] 77) = w1
  generalize hNe : w.heap.size = N
  intro kA kB kR hb1
  have HNe := Lib.hid hNe
  have hsz := hb1.size
  rw [hNe] at hga hgb hsz
  clear hNe
  have kA2 := kA.alloc (.cells #[.int .u32 0, .int .u32 0] 128)
  have kB2 := kB.alloc (.cells #[.int .u32 0, .int .u32 0] 128)
  have kR2 := kR.alloc (.cells #[.int .u32 0, .int .u32 0] 128)
  have kO2 := Blk.new w1 128 #[.int .u32 0, .int .u32 0]
  have hb2 := hb1.trans (((Below.refl w1.heap.size w1).alloc (Nat.le_refl _) (.cells #[.int .u32 0, .int .u32 0] 128)).mono hsz)
  have cA := kA.cell
  have lA := kA.lt
  have cB := kB.cell
  have lB := kB.lt
  have lR := kR.lt
  go_upto_region 2 with fail
  clear cA cB kA kB kR hmk
  revert kA2 kB2 kR2 kO2 hb2 lA lB lR
  generalize w1.alloc (.cells #[.int .u32 0, .int .u32 0] 128) = w2
  generalize w1.heap.size = g
  intro kA kB kR kO hb2 lA lB lR
  have hO := kO.lt
  have hga2 : ga < w2.heap.size := by omega
  have hgb2 : gb < w2.heap.size := by omega
  have qa2 := (hb2.cell (p := ⟨ga, 0, none⟩) hga).trans qa
  have qb2 := (hb2.cell (p := ⟨gb, 0, none⟩) hgb).trans qb
  clear qa qb hsz hb1
  have cA := kA.cell
  have cB := kB.cell
  have lA2 := kA.lt
  have lB2 := kB.lt
  go_wp2_with fail
  go_loopw [23] (fun i wr => ((i = .int .i64 0 ∧ Blk wr g 128 #[.int .u32 0, .int .u32 0]) ∨ (i = .int .i64 1 ∧ Blk wr g 128 #[.int .u32 (l0 : Int), .int .u32 (l1 : Int)])) ∧ w2.grownBy wr (some g)) (fun i _ => 1 - (intOf i).toNat)
  case atStart => exact ⟨.inl ⟨rfl, kO⟩, World.grownBy.refl _ _⟩
  case round =>
    obtain ⟨hcase, hgr⟩ := hrel
    have kA3 := kA.grown hgr (by simp; omega)
    have kB3 := kB.grown hgr (by simp; omega)
    have kR3 := kR.grown hgr (by simp; omega)
    have hgw := kB3.lt
    clear cA cB
    obtain ⟨wq, hwq⟩ : ∃ x, x = wr := ⟨_, rfl⟩
    subst hwq
    rcases hcase with ⟨rfl, kW⟩ | ⟨rfl, kW⟩
    · have qa3 := (hgr.cell_far ⟨ga, 0, none⟩ hga2 (by simp; omega)).trans qa2
      have cB := kB3.cell
      have lW := kW.lt
      have hga3 : ga < wq.heap.size := by omega
      go_wp2_with fail
      go_loopw [31, 8] (fun j c wr => ((j = .int .i64 0 ∧ c = .int .u64 0 ∧ Blk wr g 128 #[.int .u32 0, .int .u32 0]) ∨ (j = .int .i64 1 ∧ c = .int .u64 (l1 : Int) ∧ Blk wr g 128 #[.int .u32 (l0 : Int), .int .u32 0])) ∧ w2.grownBy wr (some g)) (fun j _ _ => 1 - (intOf j).toNat)
      case atStart => exact ⟨.inl ⟨rfl, rfl, kW⟩, hgr⟩
      case round =>
        obtain ⟨hcase, hgr4⟩ := hrel
        have kB4 := kB.grown hgr4 (by simp; omega)
        have qb4 := (hgr4.cell_far ⟨gb, 0, none⟩ hgb2 (by simp; omega)).trans qb2
        have lB4 := kB4.lt
        clear cB qa3 hgr
        rcases hcase with ⟨rfl, rfl, kV⟩ | ⟨rfl, rfl, kV⟩
        · have cV := kV.cell
          have fV := kV.frozen
          have lV := kV.lt
          have kV5 := kV.set_ 0 (.int .u32 (l0 : Int))
          have hgr5 := only_setCell hgr4 (p := ⟨g, 0, none⟩) (.inl rfl) (.int .u32 (l0 : Int))
          have hgb4 : gb < wr.heap.size := by omega
          have h1 := HM.out
          go_wp2_with fail
          rw [HL0.out, HL1.out]
          exact ⟨⟨.inr ⟨rfl, rfl, kV5⟩, hgr5⟩, by simp [intOf]⟩
        · have cB := kB4.cell
          have cV := kV.cell
          have fV := kV.frozen
          have lV := kV.lt
          have kV5 := kV.set_ 1 (.int .u32 (l1 : Int))
          have hgr5 := only_setCell hgr4 (p := ⟨g, 1, none⟩) (.inl rfl) (.int .u32 (l1 : Int))
          have b1i : (l1 : Int) < 4294967296 := by omega
          go_wp2_with fail
          exact ⟨⟨.inr ⟨rfl, kV5⟩, hgr5⟩, by simp [intOf]⟩
    · have lW := kW.lt
      have HT := Lib.hid fun V (h : Below wq.heap.size wq V) => trim_any (some ⟨g, 0, none⟩) 2 2 [l0, l1] V ((rowU_of (l := [l0, l1]) kW).later h) HV.out.1 (by omega) (Nat.le_refl _)
      rw [HV.out.2] at HT
      have hbw : Below N w wq := hb2.trans (below_of_only hgr (by omega) (by omega))
      go_wp2_with fail
      refine held_var (S := fun V => Blk V N 77 #[.bool false, .slice (some ⟨ga, 0, none⟩) 1 ca] ∧ Blk V (N + 1) 77 #[.bool false, .slice (some ⟨gb, 0, none⟩) 1 cb]) (by kernel_rfl) ⟨kA3.drew, kB3.drew⟩ (fun V0 hV0 hS0 => ?_)
      have hb0 : Below wq.heap.size wq V0 := by rw [hV0]; exact (Below.refl _ _).drew
      clear hV0
      refine wpAnyH_take (i := 0) (v := ?_) rfl (by kernel_rfl) (by kernel_rfl) (by kernel_rfl) (fun _ _ _ h => h) (Or.inl ⟨by rfl, ?hy⟩) (by assumption) ?_
      case hy => (intro w hSw; have cA := hSw.1.cell; have lA := hSw.1.lt; have cB := hSw.2.cell; have lB := hSw.2.lt; clear hSw; go_simp; try with_reducible rfl)
      refine wpAnyH_take (i := 1) (v := ?_) rfl (by kernel_rfl) (by kernel_rfl) (by kernel_rfl) (fun _ _ _ h => h) (Or.inl ⟨by rfl, ?hy⟩) (by assumption) ?_
      case hy => (intro w hSw; have cA := hSw.1.cell; have lA := hSw.1.lt; have cB := hSw.2.cell; have lB := hSw.2.lt; clear hSw; go_simp; try with_reducible rfl)
      refine wpAnyH_take (i := 2) (v := ?_) rfl (by kernel_rfl) (by kernel_rfl) (by kernel_rfl) (fun _ _ _ h => h) (Or.inl ⟨by rfl, ?hy⟩) (by assumption) ?_
      case hy => (intro w hSw; have cA := hSw.1.cell; have lA := hSw.1.lt; have cB := hSw.2.cell; have lB := hSw.2.lt; clear hSw; go_simp; try with_reducible rfl)
      refine wpAnyH_take (i := 3) (v := ?_) rfl (by kernel_rfl) (by kernel_rfl) (by kernel_rfl) (fun _ _ _ h => h) (Or.inl ⟨by rfl, ?hy⟩) (by assumption) ?_
      case hy => (intro w hSw; have cA := hSw.1.cell; have lA := hSw.1.lt; have cB := hSw.2.cell; have lB := hSw.2.lt; clear hSw; go_simp; try with_reducible rfl)
      refine wpAnyH_take (i := 4) (v := ?_) rfl (by kernel_rfl) (by kernel_rfl) (by kernel_rfl) (fun _ _ _ h => h) (Or.inl ⟨by rfl, ?hy⟩) (by assumption) ?_
      case hy => (intro w hSw; have cA := hSw.1.cell; have lA := hSw.1.lt; have cB := hSw.2.cell; have lB := hSw.2.lt; clear hSw; go_simp; try with_reducible rfl)
      refine wpAnyH_take (i := 5) (v := ?_) rfl (by kernel_rfl) (by kernel_rfl) (by kernel_rfl) (fun _ _ _ h => h) (Or.inl ⟨by rfl, ?hy⟩) (by assumption) ?_
      case hy => (intro w hSw; have cA := hSw.1.cell; have lA := hSw.1.lt; have cB := hSw.2.cell; have lB := hSw.2.lt; clear hSw; go_simp; try with_reducible rfl)
      simp only [Act.put, List.getElem_toArray, List.getElem_cons_succ, List.getElem_cons_zero, List.setIfInBounds_toArray, List.set_cons_succ, List.set_cons_zero]
      refine wpAnyH_ready (rs := [6]) (by kernel_rfl) (by simp) (AllReadyH.cons rfl (fun K hK => ?_) AllReadyH.nil)
      go_simp
      refine (HT.out V0 hb0).mono ?_
      rintro e w5 ⟨v5, rfl, hv5, hb5⟩
      have hb6 := hb0.trans (hb5.mono hb0.size)
      refine hK.out _ _ ⟨kA3.later hb6, kB3.later hb6⟩ (fun _ => ?_)
      clear hK K HT
      refine wpAnyH_ready (rs := [7]) (by kernel_rfl) (by simp) (AllReadyH.cons rfl (fun K hK => ?_) AllReadyH.nil)
      go_simp
      refine (made_any v5 p w5 hv5).mono ?_
      rintro e w7 ⟨rfl, hv7, hb7⟩
      have hb8 := hb6.trans (hb7.mono hb6.size)
      refine hK.out _ _ ⟨kA3.later hb8, kB3.later hb8⟩ (fun _ => ?_)
      clear hK K
      obtain ⟨A7, c7, rfl, rA7⟩ := hv7
      have RA := Lib.hid rA7
      have kR8 := kR3.later hb8
      have cR := kR8.cell
      have fR := kR8.frozen
      have lR8 := kR8.lt
      have hb9 := hbw.trans (hb8.mono (by omega))
      clear rA7 hv5
      refine wpAnyH_ready (rs := [8]) (by kernel_rfl) (by simp) (AllReadyH.cons rfl (fun K hK => ?_) AllReadyH.nil)
      go_simp
      refine hK.out _ _ ⟨((kA3.later hb8).far (p := ⟨N + 1 + 1, 0, none⟩) (show N ≠ N + 1 + 1 by omega) _).far (p := ⟨N + 1 + 1, 1, none⟩) (show N ≠ N + 1 + 1 by omega) _, ((kB3.later hb8).far (p := ⟨N + 1 + 1, 0, none⟩) (show N + 1 ≠ N + 1 + 1 by omega) _).far (p := ⟨N + 1 + 1, 1, none⟩) (show N + 1 ≠ N + 1 + 1 by omega) _⟩ (fun _ => ?_)
      clear hK K
      refine wpAnyH_done (by kernel_rfl) ?_ _
      go_wp2_with fail
      refine bodyPost_cell (N + 2) 77 #[.bool false, .slice A7 (limbs p).length c7] (.agg #[.bool false, .slice A7 (limbs p).length c7]) ((kR8.set_ 0 (.bool false)).set_ 1 (.slice A7 (limbs p).length c7)) ?_ ⟨_, rfl, ⟨A7, c7, rfl, ?_⟩, ?_⟩
      · intro W' hW'
        simp [results, Try.results75, go_sem, hW']
      · have h1 := RA.out.far (N := N + 2) (fun x => by rw [cR]; simp) (p := ⟨N + 2, 0, none⟩) rfl (.bool false)
        exact h1.far (N := N + 2) (fun x => by rw [(kR8.set_ 0 (.bool false)).cell]; simp) rfl _
      · rw [HNe.out]
        exact (hb9.setCell (by simp; omega) _).setCell (by simp; omega) _
end Go.Proofs.Ytpklcjbdmikbdaa
namespace Go.Proofs.Ytpklcjbdmikbdaa
open Go.RowKit

set_option maxHeartbeats 4000000 in
theorem add32_any (x y : Nat) (w : World) (hx : x < 4294967296) (hy : y < 4294967296) : Calls Try.prog 104 #[.int .u32 (x : Int), .int .u32 (y : Int), .int .u32 0] w fun e w' => e = .returned (.tuple #[.int .u32 (((x + y) % 4294967296 : Nat) : Int), .int .u32 (((x + y) / 4294967296 : Nat) : Int)]) ∧ w = w' := by
  have hx2 : (x : Int) < 4294967296 := by omega
  have hy2 : (y : Int) < 4294967296 := by omega
  go_enter Try.func104, Try.ntmps104
  go_wp2_with fail
  go_ret2
  exact ⟨rfl, rfl⟩
set_option maxRecDepth 100000 in
set_option maxHeartbeats 8000000 in
theorem plus_none (A B : Option Addr) (ca cb : Nat) (w : World) : Calls Try.prog 92 #[.slice A 0 ca, .slice B 0 cb] w (TrimR w 0) := by
  have hmk : ∀ w, (Instr.makeSlice 75 (.int .i64 1) (.int .i64 1)).run Try.prog w = .ok (.slice (some ⟨w.heap.size, 0, none⟩) 1 1) (w.alloc (.cells #[.int .u32 0] 128)) := fun w => make_u32 1 (by omega) w
  have kO := Blk.new w 128 #[.int .u32 0]
  have hb1 : Below w.heap.size w (w.alloc (.cells #[.int .u32 0] 128)) := (Below.refl _ _).alloc (Nat.le_refl _) _
  go_enter Try.func92, Try.ntmps92
  go_upto_region 4 with fail
  clear hmk
  revert kO hb1
  generalize w.alloc (.cells #[.int .u32 0] 128) = w2
  generalize hNe : w.heap.size = g
  intro kO hb1
  have HNe := Lib.hid hNe
  clear hNe
  have hO := kO.lt
  have cO := kO.cell
  have fO := kO.frozen
  have kO5 := kO.set_ 0 (.int .u32 0)
  have HT := Lib.hid (trim_any (some ⟨g, 0, none⟩) 1 1 [0] _ (rowU_of (l := [0]) kO5) (by intro a ha; simp at ha; omega) (by omega) (Nat.le_refl _))
  have hbw := hb1.setCell (p := ⟨g, 0, none⟩) (Nat.le_refl _) (.int .u32 0)
  go_wp2_with fail
  go_loopw [22, 6] (fun i c wr => i = .int .i64 0 ∧ c = .int .u32 0 ∧ wr = w2) (fun i _ _ => 0)
  case atStart => exact ⟨rfl, rfl, rfl⟩
  case round =>
    obtain ⟨rfl, rfl, rfl⟩ := hrel
    go_wp2_with fail
    refine HT.out.mono ?_
    rintro e w6 ⟨v6, rfl, hv6, hb6⟩
    go_wp2_with fail
    go_ret
    exact ⟨v6, rfl, hv6, by rw [HNe.out]; exact hbw.trans (hb6.mono (by simp [World.setCell]; omega))⟩
set_option maxRecDepth 100000 in
set_option maxHeartbeats 8000000 in
theorem plus_both (ga gb ca cb x y : Nat) (w : World) (hga : ga < w.heap.size) (hgb : gb < w.heap.size) (qa : w.cell? ⟨ga, 0, none⟩ = some (.int .u32 (x : Int))) (qb : w.cell? ⟨gb, 0, none⟩ = some (.int .u32 (y : Int))) (hx : x < 4294967296) (hy : y < 4294967296) :
    Calls Try.prog 92 #[.slice (some ⟨ga, 0, none⟩) 1 ca, .slice (some ⟨gb, 0, none⟩) 1 cb] w (TrimR w (x + y)) := by
  have hmk : ∀ w, (Instr.makeSlice 75 (.int .i64 2) (.int .i64 2)).run Try.prog w = .ok (.slice (some ⟨w.heap.size, 0, none⟩) 2 2) (w.alloc (.cells #[.int .u32 0, .int .u32 0] 128)) := fun w => make_u32 2 (by omega) w
  obtain ⟨p, hp⟩ : ∃ p, p = x + y := ⟨_, rfl⟩
  obtain ⟨l0, hl0⟩ : ∃ q, p % 4294967296 = q := ⟨_, rfl⟩
  obtain ⟨l1, hl1⟩ : ∃ q, p / 4294967296 = q := ⟨_, rfl⟩
  have HV : Hid (Limb [l0, l1] ∧ val [l0, l1] = p) := by rw [← hl0, ← hl1]; exact two_of (by omega)
  have HA : Hid (∀ w, Calls Try.prog 104 #[.int .u32 (x : Int), .int .u32 (y : Int), .int .u32 0] w fun e w' => e = .returned (.tuple #[.int .u32 (l0 : Int), .int .u32 (l1 : Int)]) ∧ w = w') := fun w => by
    have := add32_any x y w hx hy
    rw [← hp, hl0, hl1] at this
    exact this
  rw [← hp]
  clear hl0 hl1 hp
  have kO := Blk.new w 128 #[.int .u32 0, .int .u32 0]
  have hb1 : Below w.heap.size w (w.alloc (.cells #[.int .u32 0, .int .u32 0] 128)) := (Below.refl _ _).alloc (Nat.le_refl _) _
  go_enter Try.func92, Try.ntmps92
  go_upto_region 4 with fail
  clear hmk
  revert kO hb1
  generalize w.alloc (.cells #[.int .u32 0, .int .u32 0] 128) = w2
  generalize hNe : w.heap.size = g
  intro kO hb1
  have HNe := Lib.hid hNe
  rw [hNe] at hga hgb
  clear hNe
  have hO := kO.lt
  have hga2 : ga < w2.heap.size := by omega
  have hgb2 : gb < w2.heap.size := by omega
  have qb2 := (hb1.cell (p := ⟨gb, 0, none⟩) hgb).trans qb
  clear qb
  have qa2 := (hb1.cell (p := ⟨ga, 0, none⟩) hga).trans qa
  clear qa
  go_wp2_with fail
  go_loopw [22, 6] (fun i c wr => ((i = .int .i64 0 ∧ c = .int .u32 0 ∧ Blk wr g 128 #[.int .u32 0, .int .u32 0]) ∨ (i = .int .i64 1 ∧ c = .int .u32 (l1 : Int) ∧ Blk wr g 128 #[.int .u32 (l0 : Int), .int .u32 0])) ∧ w2.grownBy wr (some g)) (fun i _ _ => 1 - (intOf i).toNat)
  case atStart => exact ⟨.inl ⟨rfl, rfl, kO⟩, World.grownBy.refl _ _⟩
  case round =>
    obtain ⟨hcase, hgr⟩ := hrel
    obtain ⟨wq, hwq⟩ : ∃ x, x = wr := ⟨_, rfl⟩
    subst hwq
    have qa3 := (hgr.cell_far ⟨ga, 0, none⟩ hga2 (by simp; omega)).trans qa2
    have qb3 := (hgr.cell_far ⟨gb, 0, none⟩ hgb2 (by simp; omega)).trans qb2
    rcases hcase with ⟨rfl, rfl, kW⟩ | ⟨rfl, rfl, kW⟩
    · have lW := kW.lt
      have hga3 : ga < wq.heap.size := by omega
      have hgb3 : gb < wq.heap.size := by omega
      have cW := kW.cell
      have fW := kW.frozen
      have kW5 := kW.set_ 0 (.int .u32 (l0 : Int))
      have hgr5 := only_setCell hgr (p := ⟨g, 0, none⟩) (.inl rfl) (.int .u32 (l0 : Int))
      go_wp2_with fail
      refine (HA.out _).mono ?_
      rintro e w5 ⟨rfl, rfl⟩
      go_wp2_with fail
      exact ⟨⟨.inr ⟨rfl, rfl, kW5⟩, hgr5⟩, by simp [intOf]⟩
    · have lW := kW.lt
      have cW := kW.cell
      have fW := kW.frozen
      have kW5 := kW.set_ 1 (.int .u32 (l1 : Int))
      have hgr5 := only_setCell hgr (p := ⟨g, 1, none⟩) (.inl rfl) (.int .u32 (l1 : Int))
      have HT := Lib.hid (trim_any (some ⟨g, 0, none⟩) 2 2 [l0, l1] _ (rowU_of (l := [l0, l1]) kW5) HV.out.1 (by omega) (Nat.le_refl _))
      rw [HV.out.2] at HT
      have hbw : Below g w (wq.setCell ⟨g, 1, none⟩ (.int .u32 (l1 : Int))) := hb1.trans (below_of_only hgr5 (Nat.le_refl _) (by omega))
      clear kW5 hgr5 kO
      go_wp2_with fail
      refine HT.out.mono ?_
      rintro e w6 ⟨v6, rfl, hv6, hb6⟩
      go_wp2_with fail
      go_ret
      exact ⟨v6, rfl, hv6, by rw [HNe.out]; exact hbw.trans (hb6.mono (by simp [World.setCell]; omega))⟩
set_option maxRecDepth 100000 in
set_option maxHeartbeats 8000000 in
theorem plus_left (ga : Nat) (B : Option Addr) (ca cb x y : Nat) (hye : y = 0) (w : World) (hga : ga < w.heap.size) (qa : w.cell? ⟨ga, 0, none⟩ = some (.int .u32 (x : Int))) (hx : x < 4294967296) :
    Calls Try.prog 92 #[.slice (some ⟨ga, 0, none⟩) 1 ca, .slice B 0 cb] w (TrimR w (x + y)) := by
  have hy : y < 4294967296 := by omega
  have HY0 : Hid ((0 : Int) = (y : Int)) := by show _ = _; omega
  have hmk : ∀ w, (Instr.makeSlice 75 (.int .i64 2) (.int .i64 2)).run Try.prog w = .ok (.slice (some ⟨w.heap.size, 0, none⟩) 2 2) (w.alloc (.cells #[.int .u32 0, .int .u32 0] 128)) := fun w => make_u32 2 (by omega) w
  obtain ⟨p, hp⟩ : ∃ p, p = x + y := ⟨_, rfl⟩
  obtain ⟨l0, hl0⟩ : ∃ q, p % 4294967296 = q := ⟨_, rfl⟩
  obtain ⟨l1, hl1⟩ : ∃ q, p / 4294967296 = q := ⟨_, rfl⟩
  have HV : Hid (Limb [l0, l1] ∧ val [l0, l1] = p) := by rw [← hl0, ← hl1]; exact two_of (by omega)
  have HA : Hid (∀ w, Calls Try.prog 104 #[.int .u32 (x : Int), .int .u32 (y : Int), .int .u32 0] w fun e w' => e = .returned (.tuple #[.int .u32 (l0 : Int), .int .u32 (l1 : Int)]) ∧ w = w') := fun w => by
    have := add32_any x y w hx hy
    rw [← hp, hl0, hl1] at this
    exact this
  rw [← hp]
  rw [← HY0.out] at HA
  clear hl0 hl1 hp hye HY0
  have kO := Blk.new w 128 #[.int .u32 0, .int .u32 0]
  have hb1 : Below w.heap.size w (w.alloc (.cells #[.int .u32 0, .int .u32 0] 128)) := (Below.refl _ _).alloc (Nat.le_refl _) _
  go_enter Try.func92, Try.ntmps92
  go_upto_region 4 with fail
  clear hmk
  revert kO hb1
  generalize w.alloc (.cells #[.int .u32 0, .int .u32 0] 128) = w2
  generalize hNe : w.heap.size = g
  intro kO hb1
  have HNe := Lib.hid hNe
  rw [hNe] at hga
  clear hNe
  have hO := kO.lt
  have hga2 : ga < w2.heap.size := by omega
  have qa2 := (hb1.cell (p := ⟨ga, 0, none⟩) hga).trans qa
  clear qa
  go_wp2_with fail
  go_loopw [22, 6] (fun i c wr => ((i = .int .i64 0 ∧ c = .int .u32 0 ∧ Blk wr g 128 #[.int .u32 0, .int .u32 0]) ∨ (i = .int .i64 1 ∧ c = .int .u32 (l1 : Int) ∧ Blk wr g 128 #[.int .u32 (l0 : Int), .int .u32 0])) ∧ w2.grownBy wr (some g)) (fun i _ _ => 1 - (intOf i).toNat)
  case atStart => exact ⟨.inl ⟨rfl, rfl, kO⟩, World.grownBy.refl _ _⟩
  case round =>
    obtain ⟨hcase, hgr⟩ := hrel
    obtain ⟨wq, hwq⟩ : ∃ x, x = wr := ⟨_, rfl⟩
    subst hwq
    have qa3 := (hgr.cell_far ⟨ga, 0, none⟩ hga2 (by simp; omega)).trans qa2
    rcases hcase with ⟨rfl, rfl, kW⟩ | ⟨rfl, rfl, kW⟩
    · have lW := kW.lt
      have hga3 : ga < wq.heap.size := by omega

      have cW := kW.cell
      have fW := kW.frozen
      have kW5 := kW.set_ 0 (.int .u32 (l0 : Int))
      have hgr5 := only_setCell hgr (p := ⟨g, 0, none⟩) (.inl rfl) (.int .u32 (l0 : Int))
      go_wp2_with fail
      refine (HA.out _).mono ?_
      rintro e w5 ⟨rfl, rfl⟩
      go_wp2_with fail
      exact ⟨⟨.inr ⟨rfl, rfl, kW5⟩, hgr5⟩, by simp [intOf]⟩
    · have lW := kW.lt
      have cW := kW.cell
      have fW := kW.frozen
      have kW5 := kW.set_ 1 (.int .u32 (l1 : Int))
      have hgr5 := only_setCell hgr (p := ⟨g, 1, none⟩) (.inl rfl) (.int .u32 (l1 : Int))
      have HT := Lib.hid (trim_any (some ⟨g, 0, none⟩) 2 2 [l0, l1] _ (rowU_of (l := [l0, l1]) kW5) HV.out.1 (by omega) (Nat.le_refl _))
      rw [HV.out.2] at HT
      have hbw : Below g w (wq.setCell ⟨g, 1, none⟩ (.int .u32 (l1 : Int))) := hb1.trans (below_of_only hgr5 (Nat.le_refl _) (by omega))
      clear kW5 hgr5 kO
      go_wp2_with fail
      refine HT.out.mono ?_
      rintro e w6 ⟨v6, rfl, hv6, hb6⟩
      go_wp2_with fail
      go_ret
      exact ⟨v6, rfl, hv6, by rw [HNe.out]; exact hbw.trans (hb6.mono (by simp [World.setCell]; omega))⟩
set_option maxRecDepth 100000 in
set_option maxHeartbeats 8000000 in
theorem plus_right (A : Option Addr) (ga : Nat) (ca cb x y : Nat) (hye : y = 0) (w : World) (hga : ga < w.heap.size) (qa : w.cell? ⟨ga, 0, none⟩ = some (.int .u32 (x : Int))) (hx : x < 4294967296) :
    Calls Try.prog 92 #[.slice A 0 cb, .slice (some ⟨ga, 0, none⟩) 1 ca] w (TrimR w (x + y)) := by
  have hy : y < 4294967296 := by omega
  have HY0 : Hid ((0 : Int) = (y : Int)) := by show _ = _; omega
  have hmk : ∀ w, (Instr.makeSlice 75 (.int .i64 2) (.int .i64 2)).run Try.prog w = .ok (.slice (some ⟨w.heap.size, 0, none⟩) 2 2) (w.alloc (.cells #[.int .u32 0, .int .u32 0] 128)) := fun w => make_u32 2 (by omega) w
  obtain ⟨p, hp⟩ : ∃ p, p = x + y := ⟨_, rfl⟩
  obtain ⟨l0, hl0⟩ : ∃ q, p % 4294967296 = q := ⟨_, rfl⟩
  obtain ⟨l1, hl1⟩ : ∃ q, p / 4294967296 = q := ⟨_, rfl⟩
  have HV : Hid (Limb [l0, l1] ∧ val [l0, l1] = p) := by rw [← hl0, ← hl1]; exact two_of (by omega)
  have HA : Hid (∀ w, Calls Try.prog 104 #[.int .u32 (x : Int), .int .u32 (y : Int), .int .u32 0] w fun e w' => e = .returned (.tuple #[.int .u32 (l0 : Int), .int .u32 (l1 : Int)]) ∧ w = w') := fun w => by
    have := add32_any x y w hx hy
    rw [← hp, hl0, hl1] at this
    exact this
  rw [← hp]
  rw [← HY0.out] at HA
  clear hl0 hl1 hp hye HY0
  have kO := Blk.new w 128 #[.int .u32 0, .int .u32 0]
  have hb1 : Below w.heap.size w (w.alloc (.cells #[.int .u32 0, .int .u32 0] 128)) := (Below.refl _ _).alloc (Nat.le_refl _) _
  go_enter Try.func92, Try.ntmps92
  go_upto_region 4 with fail
  clear hmk
  revert kO hb1
  generalize w.alloc (.cells #[.int .u32 0, .int .u32 0] 128) = w2
  generalize hNe : w.heap.size = g
  intro kO hb1
  have HNe := Lib.hid hNe
  rw [hNe] at hga
  clear hNe
  have hO := kO.lt
  have hga2 : ga < w2.heap.size := by omega
  have qa2 := (hb1.cell (p := ⟨ga, 0, none⟩) hga).trans qa
  clear qa
  go_wp2_with fail
  go_loopw [22, 6] (fun i c wr => ((i = .int .i64 0 ∧ c = .int .u32 0 ∧ Blk wr g 128 #[.int .u32 0, .int .u32 0]) ∨ (i = .int .i64 1 ∧ c = .int .u32 (l1 : Int) ∧ Blk wr g 128 #[.int .u32 (l0 : Int), .int .u32 0])) ∧ w2.grownBy wr (some g)) (fun i _ _ => 1 - (intOf i).toNat)
  case atStart => exact ⟨.inl ⟨rfl, rfl, kO⟩, World.grownBy.refl _ _⟩
  case round =>
    obtain ⟨hcase, hgr⟩ := hrel
    obtain ⟨wq, hwq⟩ : ∃ x, x = wr := ⟨_, rfl⟩
    subst hwq
    have qa3 := (hgr.cell_far ⟨ga, 0, none⟩ hga2 (by simp; omega)).trans qa2
    rcases hcase with ⟨rfl, rfl, kW⟩ | ⟨rfl, rfl, kW⟩
    · have lW := kW.lt
      have hga3 : ga < wq.heap.size := by omega

      have cW := kW.cell
      have fW := kW.frozen
      have kW5 := kW.set_ 0 (.int .u32 (l0 : Int))
      have hgr5 := only_setCell hgr (p := ⟨g, 0, none⟩) (.inl rfl) (.int .u32 (l0 : Int))
      go_wp2_with fail
      refine (HA.out _).mono ?_
      rintro e w5 ⟨rfl, rfl⟩
      go_wp2_with fail
      exact ⟨⟨.inr ⟨rfl, rfl, kW5⟩, hgr5⟩, by simp [intOf]⟩
    · have lW := kW.lt
      have cW := kW.cell
      have fW := kW.frozen
      have kW5 := kW.set_ 1 (.int .u32 (l1 : Int))
      have hgr5 := only_setCell hgr (p := ⟨g, 1, none⟩) (.inl rfl) (.int .u32 (l1 : Int))
      have HT := Lib.hid (trim_any (some ⟨g, 0, none⟩) 2 2 [l0, l1] _ (rowU_of (l := [l0, l1]) kW5) HV.out.1 (by omega) (Nat.le_refl _))
      rw [HV.out.2] at HT
      have hbw : Below g w (wq.setCell ⟨g, 1, none⟩ (.int .u32 (l1 : Int))) := hb1.trans (below_of_only hgr5 (Nat.le_refl _) (by omega))
      clear kW5 hgr5 kO
      go_wp2_with fail
      refine HT.out.mono ?_
      rintro e w6 ⟨v6, rfl, hv6, hb6⟩
      go_wp2_with fail
      go_ret
      exact ⟨v6, rfl, hv6, by rw [HNe.out]; exact hbw.trans (hb6.mono (by simp [World.setCell]; omega))⟩
/-- The sum of two sizes. -/
theorem plus_any (va vb : Value) (a b : Nat) (w : World) (ha : MagW w va a) (hb : MagW w vb b) (ha2 : a < 4294967296) (hb2 : b < 4294967296) : Calls Try.prog 92 #[va, vb] w (TrimR w (a + b)) := by
  rcases Nat.eq_zero_or_pos a with rfl | h0
  · obtain ⟨A, c, rfl⟩ := mag_zero ha
    rcases Nat.eq_zero_or_pos b with rfl | h1
    · obtain ⟨B, d, rfl⟩ := mag_zero hb
      exact plus_none A B c d w
    · obtain ⟨g, d, rfl, hg, hc⟩ := mag_one hb h1 hb2
      rw [Nat.add_comm]
      exact plus_right A g d c b 0 rfl w hg hc hb2
  · obtain ⟨g, c, rfl, hg, hc⟩ := mag_one ha h0 ha2
    rcases Nat.eq_zero_or_pos b with rfl | h1
    · obtain ⟨B, d, rfl⟩ := mag_zero hb
      exact plus_left g B c d a 0 rfl w hg hc ha2
    · obtain ⟨g2, d, rfl, hg2, hc2⟩ := mag_one hb h1 hb2
      exact plus_both g g2 c d a b w hg hg2 hc hc2 ha2 hb2
end Go.Proofs.Ytpklcjbdmikbdaa
namespace Go.Proofs.Ytpklcjbdmikbdaa
open Go.RowKit

set_option maxRecDepth 100000 in
set_option maxHeartbeats 8000000 in
theorem intAdd_any (va vb : Value) (a b : Nat) (w : World) (ha : MagW w va a) (hb : MagW w vb b) (ha2 : a < 4294967296) (hb2 : b < 4294967296) : Calls Try.prog 76 #[.agg #[.bool false, va], .agg #[.bool false, vb]] w (IntR w (a + b)) := by
  have HP : Hid (∀ V, Below w.heap.size w V → Calls Try.prog 92 #[va, vb] V (TrimR V (a + b))) := fun V h => plus_any va vb a b V (ha.later h) (hb.later h) ha2 hb2
  obtain ⟨A, c, rfl, rA⟩ := ha
  obtain ⟨B, d, rfl, rB⟩ := hb
  clear rA rB
  generalize (limbs a).length = n at *
  generalize (limbs b).length = m at *
  obtain ⟨p, hp⟩ : ∃ p, p = a + b := ⟨_, rfl⟩
  rw [← hp] at HP ⊢
  clear hp ha2 hb2
  have e3 : ((w.alloc (.cells #[.bool false, .slice A n c] 77)).alloc (.cells #[.bool false, .slice B m d] 77)).heap.size = w.heap.size + 2 := by simp
  have e1 : (w.alloc (.cells #[.bool false, .slice A n c] 77)).heap.size = w.heap.size + 1 := by simp
  have kA := ((Blk.new w 77 #[.bool false, .slice A n c]).alloc (.cells #[.bool false, .slice B m d] 77)).alloc (.cells #[.bool false, .slice none 0 0] 77)
  have kB := (Blk.new (w.alloc (.cells #[.bool false, .slice A n c] 77)) 77 #[.bool false, .slice B m d]).alloc (.cells #[.bool false, .slice none 0 0] 77)
  have kR := Blk.new ((w.alloc (.cells #[.bool false, .slice A n c] 77)).alloc (.cells #[.bool false, .slice B m d] 77)) 77 #[.bool false, .slice none 0 0]
  rw [e1] at kB
  rw [e3] at kR
  have hb1 : Below w.heap.size w (((w.alloc (.cells #[.bool false, .slice A n c] 77)).alloc (.cells #[.bool false, .slice B m d] 77)).alloc (.cells #[.bool false, .slice none 0 0] 77)) :=
    (((Below.refl _ _).alloc (Nat.le_refl _) _).alloc (by simp) _).alloc (by simp; omega) _
  clear e1 e3
  go_enter Try.func76, Try.ntmps76
  go_upto_region 1 with fail
  revert kA kB kR hb1
  generalize ((w.alloc (.cells #[.bool false, .slice A n c] 77)).alloc (.cells #[.bool false, .slice B m d] 77)).alloc (.cells #[.bool false, .slice none 0 0] 77) = wq
  generalize hNe : w.heap.size = N
  intro kA kB kR hb1
  have HNe := Lib.hid hNe
  have hsz := hb1.size
  rw [hNe] at hsz
  clear hNe
  have lR := kR.lt
  have cA := kA.cell
  have lA := kA.lt
  have cB := kB.cell
  have lB := kB.lt
  have hbe : ((false : Bool) == false) = true := rfl
  go_upto_region 2 with fail
  clear cA lA cB lB
  refine held_var (S := fun V => Blk V N 77 #[.bool false, .slice A n c] ∧ Blk V (N + 1) 77 #[.bool false, .slice B m d]) (by kernel_rfl) ⟨kA.drew, kB.drew⟩ (fun V0 hV0 hS0 => ?_)
  have hb0 : Below wq.heap.size wq V0 := by rw [hV0]; exact (Below.refl _ _).drew
  clear hV0
  refine wpAnyH_take (i := 0) (v := ?_) rfl (by kernel_rfl) (by kernel_rfl) (by kernel_rfl) (fun _ _ _ h => h) (Or.inl ⟨by rfl, ?hy⟩) (by assumption) ?_
  case hy => (intro w hSw; have cA := hSw.1.cell; have lA := hSw.1.lt; have cB := hSw.2.cell; have lB := hSw.2.lt; clear hSw; go_simp; try with_reducible rfl)
  refine wpAnyH_take (i := 1) (v := ?_) rfl (by kernel_rfl) (by kernel_rfl) (by kernel_rfl) (fun _ _ _ h => h) (Or.inl ⟨by rfl, ?hy⟩) (by assumption) ?_
  case hy => (intro w hSw; have cA := hSw.1.cell; have lA := hSw.1.lt; have cB := hSw.2.cell; have lB := hSw.2.lt; clear hSw; go_simp; try with_reducible rfl)
  refine wpAnyH_take (i := 2) (v := ?_) rfl (by kernel_rfl) (by kernel_rfl) (by kernel_rfl) (fun _ _ _ h => h) (Or.inl ⟨by rfl, ?hy⟩) (by assumption) ?_
  case hy => (intro w hSw; have cA := hSw.1.cell; have lA := hSw.1.lt; have cB := hSw.2.cell; have lB := hSw.2.lt; clear hSw; go_simp; try with_reducible rfl)
  refine wpAnyH_take (i := 3) (v := ?_) rfl (by kernel_rfl) (by kernel_rfl) (by kernel_rfl) (fun _ _ _ h => h) (Or.inl ⟨by rfl, ?hy⟩) (by assumption) ?_
  case hy => (intro w hSw; have cA := hSw.1.cell; have lA := hSw.1.lt; have cB := hSw.2.cell; have lB := hSw.2.lt; clear hSw; go_simp; try with_reducible rfl)
  refine wpAnyH_take (i := 4) (v := ?_) rfl (by kernel_rfl) (by kernel_rfl) (by kernel_rfl) (fun _ _ _ h => h) (Or.inl ⟨by rfl, ?hy⟩) (by assumption) ?_
  case hy => (intro w hSw; have cA := hSw.1.cell; have lA := hSw.1.lt; have cB := hSw.2.cell; have lB := hSw.2.lt; clear hSw; go_simp; try with_reducible rfl)
  refine wpAnyH_take (i := 5) (v := ?_) rfl (by kernel_rfl) (by kernel_rfl) (by kernel_rfl) (fun _ _ _ h => h) (Or.inl ⟨by rfl, ?hy⟩) (by assumption) ?_
  case hy => (intro w hSw; have cA := hSw.1.cell; have lA := hSw.1.lt; have cB := hSw.2.cell; have lB := hSw.2.lt; clear hSw; go_simp; try with_reducible rfl)
  simp only [Act.put, List.getElem_toArray, List.getElem_cons_succ, List.getElem_cons_zero, List.setIfInBounds_toArray, List.set_cons_succ, List.set_cons_zero]
  refine wpAnyH_ready (rs := [6]) (by kernel_rfl) (by simp) (AllReadyH.cons rfl (fun K hK => ?_) AllReadyH.nil)
  go_simp
  refine (HP.out V0 (by rw [HNe.out]; exact hb1.trans (hb0.mono hsz))).mono ?_
  rintro e w5 ⟨v5, rfl, hv5, hb5⟩
  have hb6 := hb0.trans (hb5.mono hb0.size)
  refine hK.out _ _ ⟨kA.later hb6, kB.later hb6⟩ (fun _ => ?_)
  clear hK K HP
  refine wpAnyH_ready (rs := [7]) (by kernel_rfl) (by simp) (AllReadyH.cons rfl (fun K hK => ?_) AllReadyH.nil)
  go_simp
  refine (made_any v5 p w5 hv5).mono ?_
  rintro e w7 ⟨rfl, hv7, hb7⟩
  have hbz := hb6.trans (hb7.mono hb6.size)
  refine hK.out _ _ ⟨kA.later hbz, kB.later hbz⟩ (fun _ => ?_)
  clear hK K
  obtain ⟨A7, c7, rfl, rA7⟩ := hv7
  have RA := Lib.hid rA7
  have kR8 := kR.later hbz
  have cR := kR8.cell
  have fR := kR8.frozen
  have lR8 := kR8.lt
  have hb9 := hb1.trans (hbz.mono hsz)
  clear rA7 hv5
  refine wpAnyH_ready (rs := [8]) (by kernel_rfl) (by simp) (AllReadyH.cons rfl (fun K hK => ?_) AllReadyH.nil)
  go_simp
  refine hK.out _ _ ⟨((((kA.later hbz).far (p := ⟨N + 1 + 1, 0, none⟩) (show N ≠ N + 1 + 1 by omega) _)).far (p := ⟨N + 1 + 1, 1, none⟩) (show N ≠ N + 1 + 1 by omega) _), ((((kB.later hbz).far (p := ⟨N + 1 + 1, 0, none⟩) (show N + 1 ≠ N + 1 + 1 by omega) _)).far (p := ⟨N + 1 + 1, 1, none⟩) (show N + 1 ≠ N + 1 + 1 by omega) _)⟩ (fun _ => ?_)
  clear hK K
  refine wpAnyH_done (by kernel_rfl) ?_ _
  go_wp2_with fail
  refine bodyPost_cell (N + 2) 77 #[.bool false, .slice A7 (limbs p).length c7] (.agg #[.bool false, .slice A7 (limbs p).length c7]) ((kR8.set_ 0 (.bool false)).set_ 1 (.slice A7 (limbs p).length c7)) ?_ ⟨_, rfl, ⟨A7, c7, rfl, ?_⟩, ?_⟩
  · intro W' hW'
    simp [results, Try.results76, go_sem, hW']
  · have h1 := RA.out.far (N := N + 2) (fun x => by rw [cR]; simp) (p := ⟨N + 2, 0, none⟩) rfl (.bool false)
    exact h1.far (N := N + 2) (fun x => by rw [(kR8.set_ 0 (.bool false)).cell]; simp) rfl _
  · rw [HNe.out]
    exact (hb9.setCell (by simp; omega) _).setCell (by simp; omega) _
set_option maxRecDepth 100000 in
set_option maxHeartbeats 8000000 in
theorem mul_zero (A : Option Addr) (gb ca cb p : Nat) (hp0 : p = 0) (w : World) : Calls Try.prog 75 #[.agg #[.bool false, .slice A 0 ca], .agg #[.bool false, .slice (some ⟨gb, 0, none⟩) 1 cb]] w (IntR w p) := by
  have HP0 : Hid (val [0] = p) := by show _ = _; rw [hp0]; rfl
  clear hp0
  have hmk : ∀ w, (Instr.makeSlice 75 (.int .i64 1) (.int .i64 1)).run Try.prog w = .ok (.slice (some ⟨w.heap.size, 0, none⟩) 1 1) (w.alloc (.cells #[.int .u32 0] 128)) := fun w => make_u32 1 (by omega) w
  have e3 : ((w.alloc (.cells #[.bool false, .slice A 0 ca] 77)).alloc (.cells #[.bool false, .slice (some ⟨gb, 0, none⟩) 1 cb] 77)).heap.size = w.heap.size + 2 := by simp
  have e1 : (w.alloc (.cells #[.bool false, .slice A 0 ca] 77)).heap.size = w.heap.size + 1 := by simp
  have kA := ((Blk.new w 77 #[.bool false, .slice A 0 ca]).alloc (.cells #[.bool false, .slice (some ⟨gb, 0, none⟩) 1 cb] 77)).alloc (.cells #[.bool false, .slice none 0 0] 77)
  have kB := (Blk.new (w.alloc (.cells #[.bool false, .slice A 0 ca] 77)) 77 #[.bool false, .slice (some ⟨gb, 0, none⟩) 1 cb]).alloc (.cells #[.bool false, .slice none 0 0] 77)
  have kR := Blk.new ((w.alloc (.cells #[.bool false, .slice A 0 ca] 77)).alloc (.cells #[.bool false, .slice (some ⟨gb, 0, none⟩) 1 cb] 77)) 77 #[.bool false, .slice none 0 0]
  rw [e1] at kB
  rw [e3] at kR
  have hb1 : Below w.heap.size w (((w.alloc (.cells #[.bool false, .slice A 0 ca] 77)).alloc (.cells #[.bool false, .slice (some ⟨gb, 0, none⟩) 1 cb] 77)).alloc (.cells #[.bool false, .slice none 0 0] 77)) :=
    (((Below.refl _ _).alloc (Nat.le_refl _) _).alloc (by simp) _).alloc (by simp; omega) _
  clear e1 e3
  go_enter Try.func75, Try.ntmps75
  go_upto_region 1 with fail
  revert kA kB kR hb1
  generalize ((w.alloc (.cells #[.bool false, .slice A 0 ca] 77)).alloc (.cells #[.bool false, .slice (some ⟨gb, 0, none⟩) 1 cb] 77)).alloc (.cells #[.bool false, .slice none 0 0] 77) = w1
  generalize hNe : w.heap.size = N
  intro kA kB kR hb1
  have HNe := Lib.hid hNe
  have hsz := hb1.size
  rw [hNe] at hsz
  clear hNe
  have lR := kR.lt
  have kA2 := kA.alloc (.cells #[.int .u32 0] 128)
  have kB2 := kB.alloc (.cells #[.int .u32 0] 128)
  have kR2 := kR.alloc (.cells #[.int .u32 0] 128)
  have kO2 := Blk.new w1 128 #[.int .u32 0]
  have hb2 := hb1.trans (((Below.refl w1.heap.size w1).alloc (Nat.le_refl _) (.cells #[.int .u32 0] 128)).mono hsz)
  have cA := kA.cell
  have lA := kA.lt
  have cB := kB.cell
  have lB := kB.lt
  go_upto_region 2 with fail
  clear cA cB kA kB kR hmk hb1
  revert kA2 kB2 kR2 kO2 hb2 lA lB lR
  generalize w1.alloc (.cells #[.int .u32 0] 128) = wq
  generalize w1.heap.size = g
  intro lR kA kB kR kO hb1 lA lB
  have hsz := hb1.size
  rw [HNe.out] at hsz
  have cA := kA.cell
  have cB := kB.cell
  have lA2 := kA.lt
  have lB2 := kB.lt
  go_wp2_with fail
  go_loopw [23] (fun i wr => i = .int .i64 0 ∧ wr = wq) (fun i _ => 0)
  case atStart => exact ⟨rfl, rfl⟩
  case round =>
    obtain ⟨rfl, rfl⟩ := hrel
    obtain ⟨wq, hwq⟩ : ∃ x, x = wr := ⟨_, rfl⟩
    subst hwq
    have HT := Lib.hid fun V (h : Below wq.heap.size wq V) => trim_any (some ⟨g, 0, none⟩) 1 1 [0] V ((rowU_of (l := [0]) kO).later h) (by intro a ha; simp at ha; omega) (by omega) (Nat.le_refl _)
    rw [HP0.out] at HT
    have hbe : ((false : Bool) != false) = false := rfl
    go_wp2_with fail
    clear cA cB lA2 lB2
    refine held_var (S := fun V => Blk V N 77 #[.bool false, .slice A 0 ca] ∧ Blk V (N + 1) 77 #[.bool false, .slice (some ⟨gb, 0, none⟩) 1 cb]) (by kernel_rfl) ⟨kA.drew, kB.drew⟩ (fun V0 hV0 hS0 => ?_)
    have hb0 : Below wq.heap.size wq V0 := by rw [hV0]; exact (Below.refl _ _).drew
    clear hV0
    refine wpAnyH_take (i := 0) (v := ?_) rfl (by kernel_rfl) (by kernel_rfl) (by kernel_rfl) (fun _ _ _ h => h) (Or.inl ⟨by rfl, ?hy⟩) (by assumption) ?_
    case hy => (intro w hSw; have cA := hSw.1.cell; have lA := hSw.1.lt; have cB := hSw.2.cell; have lB := hSw.2.lt; clear hSw; go_simp; try with_reducible rfl)
    refine wpAnyH_take (i := 1) (v := ?_) rfl (by kernel_rfl) (by kernel_rfl) (by kernel_rfl) (fun _ _ _ h => h) (Or.inl ⟨by rfl, ?hy⟩) (by assumption) ?_
    case hy => (intro w hSw; have cA := hSw.1.cell; have lA := hSw.1.lt; have cB := hSw.2.cell; have lB := hSw.2.lt; clear hSw; go_simp; try with_reducible rfl)
    refine wpAnyH_take (i := 2) (v := ?_) rfl (by kernel_rfl) (by kernel_rfl) (by kernel_rfl) (fun _ _ _ h => h) (Or.inl ⟨by rfl, ?hy⟩) (by assumption) ?_
    case hy => (intro w hSw; have cA := hSw.1.cell; have lA := hSw.1.lt; have cB := hSw.2.cell; have lB := hSw.2.lt; clear hSw; go_simp; try with_reducible rfl)
    refine wpAnyH_take (i := 3) (v := ?_) rfl (by kernel_rfl) (by kernel_rfl) (by kernel_rfl) (fun _ _ _ h => h) (Or.inl ⟨by rfl, ?hy⟩) (by assumption) ?_
    case hy => (intro w hSw; have cA := hSw.1.cell; have lA := hSw.1.lt; have cB := hSw.2.cell; have lB := hSw.2.lt; clear hSw; go_simp; try with_reducible rfl)
    refine wpAnyH_take (i := 4) (v := ?_) rfl (by kernel_rfl) (by kernel_rfl) (by kernel_rfl) (fun _ _ _ h => h) (Or.inl ⟨by rfl, ?hy⟩) (by assumption) ?_
    case hy => (intro w hSw; have cA := hSw.1.cell; have lA := hSw.1.lt; have cB := hSw.2.cell; have lB := hSw.2.lt; clear hSw; go_simp; try with_reducible rfl)
    refine wpAnyH_take (i := 5) (v := ?_) rfl (by kernel_rfl) (by kernel_rfl) (by kernel_rfl) (fun _ _ _ h => h) (Or.inl ⟨by rfl, ?hy⟩) (by assumption) ?_
    case hy => (intro w hSw; have cA := hSw.1.cell; have lA := hSw.1.lt; have cB := hSw.2.cell; have lB := hSw.2.lt; clear hSw; go_simp; try with_reducible rfl)
    simp only [Act.put, List.getElem_toArray, List.getElem_cons_succ, List.getElem_cons_zero, List.setIfInBounds_toArray, List.set_cons_succ, List.set_cons_zero]
    refine wpAnyH_ready (rs := [6]) (by kernel_rfl) (by simp) (AllReadyH.cons rfl (fun K hK => ?_) AllReadyH.nil)
    go_simp
    refine (HT.out V0 hb0).mono ?_
    rintro e w5 ⟨v5, rfl, hv5, hb5⟩
    have hb6 := hb0.trans (hb5.mono hb0.size)
    refine hK.out _ _ ⟨kA.later hb6, kB.later hb6⟩ (fun _ => ?_)
    clear hK K HT
    refine wpAnyH_ready (rs := [7]) (by kernel_rfl) (by simp) (AllReadyH.cons rfl (fun K hK => ?_) AllReadyH.nil)
    go_simp
    refine (made_any v5 _ w5 hv5).mono ?_
    rintro e w7 ⟨rfl, hv7, hb7⟩
    have hbz := hb6.trans (hb7.mono hb6.size)
    refine hK.out _ _ ⟨kA.later hbz, kB.later hbz⟩ (fun _ => ?_)
    clear hK K
    obtain ⟨A7, c7, rfl, rA7⟩ := hv7
    have RA := Lib.hid rA7
    have kR8 := kR.later hbz
    have cR := kR8.cell
    have fR := kR8.frozen
    have lR8 := kR8.lt
    have hb9 := hb1.trans (hbz.mono (by omega))
    clear rA7 hv5
    refine wpAnyH_ready (rs := [8]) (by kernel_rfl) (by simp) (AllReadyH.cons rfl (fun K hK => ?_) AllReadyH.nil)
    go_simp
    refine hK.out _ _ ⟨((((kA.later hbz).far (p := ⟨N + 1 + 1, 0, none⟩) (show N ≠ N + 1 + 1 by omega) _)).far (p := ⟨N + 1 + 1, 1, none⟩) (show N ≠ N + 1 + 1 by omega) _), ((((kB.later hbz).far (p := ⟨N + 1 + 1, 0, none⟩) (show N + 1 ≠ N + 1 + 1 by omega) _)).far (p := ⟨N + 1 + 1, 1, none⟩) (show N + 1 ≠ N + 1 + 1 by omega) _)⟩ (fun _ => ?_)
    clear hK K
    refine wpAnyH_done (by kernel_rfl) ?_ _
    go_wp2_with fail
    refine bodyPost_cell (N + 2) 77 #[.bool false, .slice A7 (limbs p).length c7] (.agg #[.bool false, .slice A7 (limbs p).length c7]) ((kR8.set_ 0 (.bool false)).set_ 1 (.slice A7 (limbs p).length c7)) ?_ ⟨_, rfl, ⟨A7, c7, rfl, ?_⟩, ?_⟩
    · intro W' hW'
      simp [results, Try.results75, go_sem, hW']
    · have h1 := RA.out.far (N := N + 2) (fun x => by rw [cR]; simp) (p := ⟨N + 2, 0, none⟩) rfl (.bool false)
      exact h1.far (N := N + 2) (fun x => by rw [(kR8.set_ 0 (.bool false)).cell]; simp) rfl _
    · rw [HNe.out]
      exact (hb9.setCell (by simp; omega) _).setCell (by simp; omega) _
/-- The product of two integers. -/
theorem mul_any (va vb : Value) (a b : Nat) (w : World) (ha : MagW w va a) (hb : MagW w vb b) (ha2 : a < 4294967296) (hb2 : b < 4294967296) (hb0 : 0 < b) : Calls Try.prog 75 #[.agg #[.bool false, va], .agg #[.bool false, vb]] w (IntR w (a * b)) := by
  obtain ⟨g2, d, rfl, hg2, hc2⟩ := mag_one hb hb0 hb2
  rcases Nat.eq_zero_or_pos a with rfl | h0
  · obtain ⟨A, c, rfl⟩ := mag_zero ha
    rw [Nat.zero_mul]
    exact mul_zero A g2 c d 0 rfl w
  · obtain ⟨g, c, rfl, hg, hc⟩ := mag_one ha h0 ha2
    exact mul_pos g g2 c d a b w hg hg2 hc hc2 ha2 hb2
/-- What is returned: a fraction of two integers. -/
def RatR (w : World) (n d : Nat) (e : Ending) (w' : World) : Prop := ∃ va vb, e = .returned (.agg #[.bool false, va, .bool false, vb]) ∧ MagW w' va n ∧ MagW w' vb d ∧ Below w.heap.size w w'
set_option maxRecDepth 100000 in
set_option maxHeartbeats 8000000 in
theorem from_any (n d : Nat) (w : World) (hn : n < 9223372036854775808) (hd : d < 9223372036854775808) : Calls Try.prog 50 #[.agg #[.int .i64 (n : Int), .int .i64 (d : Int)]] w (RatR w n d) := by
  have HN : Hid (∀ V, Below w.heap.size w V → _) := fun V _ => of_any n V hn
  have HD : Hid (∀ V, Below w.heap.size w V → _) := fun V _ => of_any d V hd
  have e1 : (w.alloc (.cells #[.int .i64 (n : Int), .int .i64 (d : Int)] 31)).heap.size = w.heap.size + 1 := by simp
  have kA := (Blk.new w 31 #[.int .i64 (n : Int), .int .i64 (d : Int)]).alloc (.cells #[.bool false, .slice none 0 0, .bool false, .slice none 0 0] 79)
  have kR := Blk.new (w.alloc (.cells #[.int .i64 (n : Int), .int .i64 (d : Int)] 31)) 79 #[.bool false, .slice none 0 0, .bool false, .slice none 0 0]
  rw [e1] at kR
  have hb1 : Below w.heap.size w ((w.alloc (.cells #[.int .i64 (n : Int), .int .i64 (d : Int)] 31)).alloc (.cells #[.bool false, .slice none 0 0, .bool false, .slice none 0 0] 79)) := ((Below.refl _ _).alloc (Nat.le_refl _) _).alloc (by simp) _
  clear e1
  go_enter Try.func50, Try.ntmps50
  go_upto_region 1 with fail
  revert kA kR hb1
  generalize (w.alloc (.cells #[.int .i64 (n : Int), .int .i64 (d : Int)] 31)).alloc (.cells #[.bool false, .slice none 0 0, .bool false, .slice none 0 0] 79) = wq
  generalize hNe : w.heap.size = N
  intro kA kR hb1
  have HNe := Lib.hid hNe
  have hsz := hb1.size
  rw [hNe] at hsz
  clear hNe
  have lR := kR.lt
  refine held_var (S := fun V => Blk V N 31 #[.int .i64 (n : Int), .int .i64 (d : Int)]) (by kernel_rfl) kA.drew (fun V0 hV0 hS0 => ?_)
  have hb0 : Below wq.heap.size wq V0 := by rw [hV0]; exact (Below.refl _ _).drew
  clear hV0
  refine wpAnyH_take (i := 0) (v := ?_) rfl (by kernel_rfl) (by kernel_rfl) (by kernel_rfl) (fun _ _ _ h => h) (Or.inl ⟨by rfl, ?hy⟩) (by assumption) ?_
  case hy => (intro w hSw; have cA := hSw.cell; have lA := hSw.lt; clear hSw; go_simp; try with_reducible rfl)
  refine wpAnyH_take (i := 1) (v := ?_) rfl (by kernel_rfl) (by kernel_rfl) (by kernel_rfl) (fun _ _ _ h => h) (Or.inl ⟨by rfl, ?hy⟩) (by assumption) ?_
  case hy => (intro w hSw; have cA := hSw.cell; have lA := hSw.lt; clear hSw; go_simp; try with_reducible rfl)
  refine wpAnyH_take (i := 3) (v := ?_) rfl (by kernel_rfl) (by kernel_rfl) (by kernel_rfl) (fun _ _ _ h => h) (Or.inl ⟨by rfl, ?hy⟩) (by assumption) ?_
  case hy => (intro w hSw; have cA := hSw.cell; have lA := hSw.lt; clear hSw; go_simp; try with_reducible rfl)
  refine wpAnyH_take (i := 4) (v := ?_) rfl (by kernel_rfl) (by kernel_rfl) (by kernel_rfl) (fun _ _ _ h => h) (Or.inl ⟨by rfl, ?hy⟩) (by assumption) ?_
  case hy => (intro w hSw; have cA := hSw.cell; have lA := hSw.lt; clear hSw; go_simp; try with_reducible rfl)
  simp only [Act.put, List.getElem_toArray, List.getElem_cons_succ, List.getElem_cons_zero, List.setIfInBounds_toArray, List.set_cons_succ, List.set_cons_zero]
  refine wpAnyH_ready (rs := [2]) (by kernel_rfl) (by simp) (AllReadyH.cons rfl (fun K hK => ?_) AllReadyH.nil)
  go_simp
  refine (HN.out _ (by rw [HNe.out]; exact hb1.trans (hb0.mono hsz))).mono ?_
  rintro e V2 ⟨vx, rfl, hx, hbX⟩
  replace hb0 := hb0.trans (hbX.mono hb0.size)
  refine hK.out _ _ (kA.later hb0) (fun _ => ?_)
  clear hK K hbX
  refine wpAnyH_ready (rs := [5]) (by kernel_rfl) (by simp) (AllReadyH.cons rfl (fun K hK => ?_) AllReadyH.nil)
  go_simp
  refine (HD.out _ (by rw [HNe.out]; exact hb1.trans (hb0.mono hsz))).mono ?_
  rintro e V5 ⟨vy, rfl, hy, hbX⟩
  replace hb0 := hb0.trans (hbX.mono hb0.size)
  replace hx := hx.later hbX
  refine hK.out _ _ (kA.later hb0) (fun _ => ?_)
  clear hK K hbX
  refine wpAnyH_ready (rs := [6]) (by kernel_rfl) (by simp) (AllReadyH.cons rfl (fun K hK => ?_) AllReadyH.nil)
  go_simp
  refine hK.out _ _ (kA.later hb0) (fun _ => ?_)
  clear hK K
  refine wpAnyH_ready (rs := [7]) (by kernel_rfl) (by simp) (AllReadyH.cons rfl (fun K hK => ?_) AllReadyH.nil)
  obtain ⟨A1, c1, rfl, r1⟩ := hx
  obtain ⟨A2, c2, rfl, r2⟩ := hy
  have R1 := Lib.hid r1
  have R2 := Lib.hid r2
  have kR8 := kR.later hb0
  have cR := kR8.cell
  have fR := kR8.frozen
  have lR8 := kR8.lt
  have hb9 := hb1.trans (hb0.mono hsz)
  clear r1 r2
  go_simp
  refine hK.out _ _ (((((kA.later hb0).far (p := ⟨(N + 1), 0, none⟩) (show N ≠ (N + 1) by omega) _).far (p := ⟨(N + 1), 1, none⟩) (show N ≠ (N + 1) by omega) _).far (p := ⟨(N + 1), 2, none⟩) (show N ≠ (N + 1) by omega) _).far (p := ⟨(N + 1), 3, none⟩) (show N ≠ (N + 1) by omega) _) (fun _ => ?_)
  clear hK K
  refine wpAnyH_done (by kernel_rfl) ?_ _
  go_wp2_with fail
  refine bodyPost_cell (N + 1) 79 #[.bool false, .slice A1 (limbs n).length c1, .bool false, .slice A2 (limbs d).length c2] (.agg #[.bool false, .slice A1 (limbs n).length c1, .bool false, .slice A2 (limbs d).length c2]) ((((kR8.set_ 0 (.bool false)).set_ 1 (.slice A1 (limbs n).length c1)).set_ 2 (.bool false)).set_ 3 (.slice A2 (limbs d).length c2)) ?_ ⟨_, _, rfl, ⟨A1, c1, rfl, ((((R1.out.far (N := (N + 1)) (fun x => by rw [cR]; simp) (p := ⟨(N + 1), 0, none⟩) rfl (.bool false)).far (N := (N + 1)) (fun x => by rw [(kR8.set_ 0 (.bool false)).cell]; simp) (p := ⟨(N + 1), 1, none⟩) rfl (.slice A1 (limbs n).length c1)).far (N := (N + 1)) (fun x => by rw [((kR8.set_ 0 (.bool false)).set_ 1 (.slice A1 (limbs n).length c1)).cell]; simp) (p := ⟨(N + 1), 2, none⟩) rfl (.bool false)).far (N := (N + 1)) (fun x => by rw [(((kR8.set_ 0 (.bool false)).set_ 1 (.slice A1 (limbs n).length c1)).set_ 2 (.bool false)).cell]; simp) (p := ⟨(N + 1), 3, none⟩) rfl (.slice A2 (limbs d).length c2))⟩, ⟨A2, c2, rfl, ((((R2.out.far (N := (N + 1)) (fun x => by rw [cR]; simp) (p := ⟨(N + 1), 0, none⟩) rfl (.bool false)).far (N := (N + 1)) (fun x => by rw [(kR8.set_ 0 (.bool false)).cell]; simp) (p := ⟨(N + 1), 1, none⟩) rfl (.slice A1 (limbs n).length c1)).far (N := (N + 1)) (fun x => by rw [((kR8.set_ 0 (.bool false)).set_ 1 (.slice A1 (limbs n).length c1)).cell]; simp) (p := ⟨(N + 1), 2, none⟩) rfl (.bool false)).far (N := (N + 1)) (fun x => by rw [(((kR8.set_ 0 (.bool false)).set_ 1 (.slice A1 (limbs n).length c1)).set_ 2 (.bool false)).cell]; simp) (p := ⟨(N + 1), 3, none⟩) rfl (.slice A2 (limbs d).length c2))⟩, ?_⟩
  · intro W' hW'
    simp [results, Try.results50, go_sem, hW']
  · rw [HNe.out]
    exact (((hb9.setCell (show N ≤ (N + 1) by omega) _).setCell (show N ≤ (N + 1) by omega) _).setCell (show N ≤ (N + 1) by omega) _).setCell (show N ≤ (N + 1) by omega) _
end Go.Proofs.Ytpklcjbdmikbdaa
namespace Go.Proofs.Ytpklcjbdmikbdaa
open Go.RowKit

set_option maxRecDepth 100000 in
set_option maxHeartbeats 16000000 in
theorem ratAdd_any (va vb vc vd : Value) (a b c d : Nat) (w : World) (ha : MagW w va a) (hb : MagW w vb b) (hc : MagW w vc c) (hd : MagW w vd d) (b0 : 0 < b) (d0 : 0 < d) (a1 : a ≤ 32768) (b1 : b ≤ 32768) (c1 : c ≤ 32768) (d1 : d ≤ 32768) :
    Calls Try.prog 51 #[.agg #[.bool false, va, .bool false, vb], .agg #[.bool false, vc, .bool false, vd]] w (RatR w (a * d + c * b) (b * d)) := by
  have HM1 : Hid (∀ V, Below w.heap.size w V → _) := fun V h => mul_any va vd a d V (ha.later h) (hd.later h) (by omega) (by omega) d0
  have HM2 : Hid (∀ V, Below w.heap.size w V → _) := fun V h => mul_any vc vb c b V (hc.later h) (hb.later h) (by omega) (by omega) b0
  have HM3 : Hid (∀ V, Below w.heap.size w V → _) := fun V h => mul_any vb vd b d V (hb.later h) (hd.later h) (by omega) (by omega) d0
  have q1 := Nat.mul_le_mul a1 d1
  have q2 := Nat.mul_le_mul c1 b1
  have q3 := Nat.mul_le_mul b1 d1
  generalize a * d = p1 at *
  generalize c * b = p2 at *
  generalize b * d = p3 at *
  have HP : Hid (∀ V vx vy, MagW V vx p1 → MagW V vy p2 → _) := fun V vx vy h1 h2 => intAdd_any vx vy p1 p2 V h1 h2 (by omega) (by omega)
  generalize p1 + p2 = p4 at *
  obtain ⟨A, c1, rfl, rA⟩ := ha
  obtain ⟨B, c2, rfl, rB⟩ := hb
  obtain ⟨C, c3, rfl, rC⟩ := hc
  obtain ⟨D, c4, rfl, rD⟩ := hd
  clear rA rB rC rD q1 q2 q3 b0 d0
  generalize (limbs a).length = n1 at *
  generalize (limbs b).length = n2 at *
  generalize (limbs c).length = n3 at *
  generalize (limbs d).length = n4 at *
  have e3 : ((w.alloc (.cells #[.bool false, .slice A n1 c1, .bool false, .slice B n2 c2] 79)).alloc (.cells #[.bool false, .slice C n3 c3, .bool false, .slice D n4 c4] 79)).heap.size = w.heap.size + 2 := by simp
  have e1 : (w.alloc (.cells #[.bool false, .slice A n1 c1, .bool false, .slice B n2 c2] 79)).heap.size = w.heap.size + 1 := by simp
  have kA := ((Blk.new w 79 #[.bool false, .slice A n1 c1, .bool false, .slice B n2 c2]).alloc (.cells #[.bool false, .slice C n3 c3, .bool false, .slice D n4 c4] 79)).alloc (.cells #[.bool false, .slice none 0 0, .bool false, .slice none 0 0] 79)
  have kB := (Blk.new (w.alloc (.cells #[.bool false, .slice A n1 c1, .bool false, .slice B n2 c2] 79)) 79 #[.bool false, .slice C n3 c3, .bool false, .slice D n4 c4]).alloc (.cells #[.bool false, .slice none 0 0, .bool false, .slice none 0 0] 79)
  have kR := Blk.new ((w.alloc (.cells #[.bool false, .slice A n1 c1, .bool false, .slice B n2 c2] 79)).alloc (.cells #[.bool false, .slice C n3 c3, .bool false, .slice D n4 c4] 79)) 79 #[.bool false, .slice none 0 0, .bool false, .slice none 0 0]
  rw [e1] at kB
  rw [e3] at kR
  have hb1 : Below w.heap.size w (((w.alloc (.cells #[.bool false, .slice A n1 c1, .bool false, .slice B n2 c2] 79)).alloc (.cells #[.bool false, .slice C n3 c3, .bool false, .slice D n4 c4] 79)).alloc (.cells #[.bool false, .slice none 0 0, .bool false, .slice none 0 0] 79)) :=
    (((Below.refl _ _).alloc (Nat.le_refl _) _).alloc (by simp) _).alloc (by simp; omega) _
  clear e1 e3
  go_enter Try.func51, Try.ntmps51
  go_upto_region 1 with fail
  revert kA kB kR hb1
  generalize ((w.alloc (.cells #[.bool false, .slice A n1 c1, .bool false, .slice B n2 c2] 79)).alloc (.cells #[.bool false, .slice C n3 c3, .bool false, .slice D n4 c4] 79)).alloc (.cells #[.bool false, .slice none 0 0, .bool false, .slice none 0 0] 79) = wq
  generalize hNe : w.heap.size = N
  intro kA kB kR hb1
  have HNe := Lib.hid hNe
  have hsz := hb1.size
  rw [hNe] at hsz
  clear hNe
  have lR := kR.lt
  refine held_var (S := fun V => Blk V N 79 #[.bool false, .slice A n1 c1, .bool false, .slice B n2 c2] ∧ Blk V (N + 1) 79 #[.bool false, .slice C n3 c3, .bool false, .slice D n4 c4]) (by kernel_rfl) ⟨kA.drew, kB.drew⟩ (fun V0 hV0 hS0 => ?_)
  have hb0 : Below wq.heap.size wq V0 := by rw [hV0]; exact (Below.refl _ _).drew
  clear hV0
  refine wpAnyH_take (i := 0) (v := ?_) rfl (by kernel_rfl) (by kernel_rfl) (by kernel_rfl) (fun _ _ _ h => h) (Or.inl ⟨by rfl, ?hy⟩) (by assumption) ?_
  case hy => (intro w hSw; have cA := hSw.1.cell; have lA := hSw.1.lt; have cB := hSw.2.cell; have lB := hSw.2.lt; clear hSw; go_simp; try with_reducible rfl)
  refine wpAnyH_take (i := 1) (v := ?_) rfl (by kernel_rfl) (by kernel_rfl) (by kernel_rfl) (fun _ _ _ h => h) (Or.inl ⟨by rfl, ?hy⟩) (by assumption) ?_
  case hy => (intro w hSw; have cA := hSw.1.cell; have lA := hSw.1.lt; have cB := hSw.2.cell; have lB := hSw.2.lt; clear hSw; go_simp; try with_reducible rfl)
  refine wpAnyH_take (i := 2) (v := ?_) rfl (by kernel_rfl) (by kernel_rfl) (by kernel_rfl) (fun _ _ _ h => h) (Or.inl ⟨by rfl, ?hy⟩) (by assumption) ?_
  case hy => (intro w hSw; have cA := hSw.1.cell; have lA := hSw.1.lt; have cB := hSw.2.cell; have lB := hSw.2.lt; clear hSw; go_simp; try with_reducible rfl)
  refine wpAnyH_take (i := 3) (v := ?_) rfl (by kernel_rfl) (by kernel_rfl) (by kernel_rfl) (fun _ _ _ h => h) (Or.inl ⟨by rfl, ?hy⟩) (by assumption) ?_
  case hy => (intro w hSw; have cA := hSw.1.cell; have lA := hSw.1.lt; have cB := hSw.2.cell; have lB := hSw.2.lt; clear hSw; go_simp; try with_reducible rfl)
  simp only [Act.put, List.getElem_toArray, List.getElem_cons_succ, List.getElem_cons_zero, List.setIfInBounds_toArray, List.set_cons_succ, List.set_cons_zero]
  refine wpAnyH_take (i := 5) (v := ?_) rfl (by kernel_rfl) (by kernel_rfl) (by kernel_rfl) (fun _ _ _ h => h) (Or.inl ⟨by rfl, ?hy⟩) (by assumption) ?_
  case hy => (intro w hSw; have cA := hSw.1.cell; have lA := hSw.1.lt; have cB := hSw.2.cell; have lB := hSw.2.lt; clear hSw; go_simp; try with_reducible rfl)
  refine wpAnyH_take (i := 6) (v := ?_) rfl (by kernel_rfl) (by kernel_rfl) (by kernel_rfl) (fun _ _ _ h => h) (Or.inl ⟨by rfl, ?hy⟩) (by assumption) ?_
  case hy => (intro w hSw; have cA := hSw.1.cell; have lA := hSw.1.lt; have cB := hSw.2.cell; have lB := hSw.2.lt; clear hSw; go_simp; try with_reducible rfl)
  refine wpAnyH_take (i := 7) (v := ?_) rfl (by kernel_rfl) (by kernel_rfl) (by kernel_rfl) (fun _ _ _ h => h) (Or.inl ⟨by rfl, ?hy⟩) (by assumption) ?_
  case hy => (intro w hSw; have cA := hSw.1.cell; have lA := hSw.1.lt; have cB := hSw.2.cell; have lB := hSw.2.lt; clear hSw; go_simp; try with_reducible rfl)
  refine wpAnyH_take (i := 8) (v := ?_) rfl (by kernel_rfl) (by kernel_rfl) (by kernel_rfl) (fun _ _ _ h => h) (Or.inl ⟨by rfl, ?hy⟩) (by assumption) ?_
  case hy => (intro w hSw; have cA := hSw.1.cell; have lA := hSw.1.lt; have cB := hSw.2.cell; have lB := hSw.2.lt; clear hSw; go_simp; try with_reducible rfl)
  simp only [Act.put, List.getElem_toArray, List.getElem_cons_succ, List.getElem_cons_zero, List.setIfInBounds_toArray, List.set_cons_succ, List.set_cons_zero]
  refine wpAnyH_take (i := 11) (v := ?_) rfl (by kernel_rfl) (by kernel_rfl) (by kernel_rfl) (fun _ _ _ h => h) (Or.inl ⟨by rfl, ?hy⟩) (by assumption) ?_
  case hy => (intro w hSw; have cA := hSw.1.cell; have lA := hSw.1.lt; have cB := hSw.2.cell; have lB := hSw.2.lt; clear hSw; go_simp; try with_reducible rfl)
  refine wpAnyH_take (i := 12) (v := ?_) rfl (by kernel_rfl) (by kernel_rfl) (by kernel_rfl) (fun _ _ _ h => h) (Or.inl ⟨by rfl, ?hy⟩) (by assumption) ?_
  case hy => (intro w hSw; have cA := hSw.1.cell; have lA := hSw.1.lt; have cB := hSw.2.cell; have lB := hSw.2.lt; clear hSw; go_simp; try with_reducible rfl)
  refine wpAnyH_take (i := 13) (v := ?_) rfl (by kernel_rfl) (by kernel_rfl) (by kernel_rfl) (fun _ _ _ h => h) (Or.inl ⟨by rfl, ?hy⟩) (by assumption) ?_
  case hy => (intro w hSw; have cA := hSw.1.cell; have lA := hSw.1.lt; have cB := hSw.2.cell; have lB := hSw.2.lt; clear hSw; go_simp; try with_reducible rfl)
  refine wpAnyH_take (i := 14) (v := ?_) rfl (by kernel_rfl) (by kernel_rfl) (by kernel_rfl) (fun _ _ _ h => h) (Or.inl ⟨by rfl, ?hy⟩) (by assumption) ?_
  case hy => (intro w hSw; have cA := hSw.1.cell; have lA := hSw.1.lt; have cB := hSw.2.cell; have lB := hSw.2.lt; clear hSw; go_simp; try with_reducible rfl)
  simp only [Act.put, List.getElem_toArray, List.getElem_cons_succ, List.getElem_cons_zero, List.setIfInBounds_toArray, List.set_cons_succ, List.set_cons_zero]
  refine wpAnyH_ready (rs := [4]) (by kernel_rfl) (by simp) (AllReadyH.cons rfl (fun K hK => ?_) AllReadyH.nil)
  go_simp
  refine (HM1.out _ (by rw [HNe.out]; exact hb1.trans (hb0.mono hsz))).mono ?_
  rintro e V4 ⟨vx, rfl, hx, hbX⟩
  replace hb0 := hb0.trans (hbX.mono hb0.size)
  refine hK.out _ _ ⟨kA.later hb0, kB.later hb0⟩ (fun _ => ?_)
  clear hK K hbX
  refine wpAnyH_ready (rs := [9]) (by kernel_rfl) (by simp) (AllReadyH.cons rfl (fun K hK => ?_) AllReadyH.nil)
  go_simp
  refine (HM2.out _ (by rw [HNe.out]; exact hb1.trans (hb0.mono hsz))).mono ?_
  rintro e V9 ⟨vy, rfl, hy, hbX⟩
  replace hb0 := hb0.trans (hbX.mono hb0.size)
  replace hx := hx.later hbX
  refine hK.out _ _ ⟨kA.later hb0, kB.later hb0⟩ (fun _ => ?_)
  clear hK K hbX
  refine wpAnyH_ready (rs := [10]) (by kernel_rfl) (by simp) (AllReadyH.cons rfl (fun K hK => ?_) AllReadyH.nil)
  go_simp
  refine (HP.out _ _ _ hx hy).mono ?_
  rintro e V10 ⟨vz, rfl, hz, hbX⟩
  replace hb0 := hb0.trans (hbX.mono hb0.size)
  clear hx hy
  refine hK.out _ _ ⟨kA.later hb0, kB.later hb0⟩ (fun _ => ?_)
  clear hK K hbX
  refine wpAnyH_ready (rs := [15]) (by kernel_rfl) (by simp) (AllReadyH.cons rfl (fun K hK => ?_) AllReadyH.nil)
  go_simp
  refine (HM3.out _ (by rw [HNe.out]; exact hb1.trans (hb0.mono hsz))).mono ?_
  rintro e V15 ⟨vu, rfl, hu, hbX⟩
  replace hb0 := hb0.trans (hbX.mono hb0.size)
  replace hz := hz.later hbX
  refine hK.out _ _ ⟨kA.later hb0, kB.later hb0⟩ (fun _ => ?_)
  clear hK K hbX
  refine wpAnyH_ready (rs := [16]) (by kernel_rfl) (by simp) (AllReadyH.cons rfl (fun K hK => ?_) AllReadyH.nil)
  go_simp
  refine hK.out _ _ ⟨kA.later hb0, kB.later hb0⟩ (fun _ => ?_)
  clear hK K
  refine wpAnyH_ready (rs := [17]) (by kernel_rfl) (by simp) (AllReadyH.cons rfl (fun K hK => ?_) AllReadyH.nil)
  obtain ⟨A1, c1, rfl, r1⟩ := hz
  obtain ⟨A2, c2, rfl, r2⟩ := hu
  have R1 := Lib.hid r1
  have R2 := Lib.hid r2
  have kR8 := kR.later hb0
  have cR := kR8.cell
  have fR := kR8.frozen
  have lR8 := kR8.lt
  have hb9 := hb1.trans (hb0.mono hsz)
  clear r1 r2
  go_simp
  refine hK.out _ _ ⟨((((kA.later hb0).far (p := ⟨(N + 2), 0, none⟩) (show N ≠ (N + 2) by omega) _).far (p := ⟨(N + 2), 1, none⟩) (show N ≠ (N + 2) by omega) _).far (p := ⟨(N + 2), 2, none⟩) (show N ≠ (N + 2) by omega) _).far (p := ⟨(N + 2), 3, none⟩) (show N ≠ (N + 2) by omega) _, ((((kB.later hb0).far (p := ⟨(N + 2), 0, none⟩) (show N + 1 ≠ (N + 2) by omega) _).far (p := ⟨(N + 2), 1, none⟩) (show N + 1 ≠ (N + 2) by omega) _).far (p := ⟨(N + 2), 2, none⟩) (show N + 1 ≠ (N + 2) by omega) _).far (p := ⟨(N + 2), 3, none⟩) (show N + 1 ≠ (N + 2) by omega) _⟩ (fun _ => ?_)
  clear hK K
  refine wpAnyH_done (by kernel_rfl) ?_ _
  go_wp2_with fail
  refine bodyPost_cell (N + 2) 79 #[.bool false, .slice A1 (limbs p4).length c1, .bool false, .slice A2 (limbs p3).length c2] (.agg #[.bool false, .slice A1 (limbs p4).length c1, .bool false, .slice A2 (limbs p3).length c2]) ((((kR8.set_ 0 (.bool false)).set_ 1 (.slice A1 (limbs p4).length c1)).set_ 2 (.bool false)).set_ 3 (.slice A2 (limbs p3).length c2)) ?_ ⟨_, _, rfl, ⟨A1, c1, rfl, ((((R1.out.far (N := (N + 2)) (fun x => by rw [cR]; simp) (p := ⟨(N + 2), 0, none⟩) rfl (.bool false)).far (N := (N + 2)) (fun x => by rw [(kR8.set_ 0 (.bool false)).cell]; simp) (p := ⟨(N + 2), 1, none⟩) rfl (.slice A1 (limbs p4).length c1)).far (N := (N + 2)) (fun x => by rw [((kR8.set_ 0 (.bool false)).set_ 1 (.slice A1 (limbs p4).length c1)).cell]; simp) (p := ⟨(N + 2), 2, none⟩) rfl (.bool false)).far (N := (N + 2)) (fun x => by rw [(((kR8.set_ 0 (.bool false)).set_ 1 (.slice A1 (limbs p4).length c1)).set_ 2 (.bool false)).cell]; simp) (p := ⟨(N + 2), 3, none⟩) rfl (.slice A2 (limbs p3).length c2))⟩, ⟨A2, c2, rfl, ((((R2.out.far (N := (N + 2)) (fun x => by rw [cR]; simp) (p := ⟨(N + 2), 0, none⟩) rfl (.bool false)).far (N := (N + 2)) (fun x => by rw [(kR8.set_ 0 (.bool false)).cell]; simp) (p := ⟨(N + 2), 1, none⟩) rfl (.slice A1 (limbs p4).length c1)).far (N := (N + 2)) (fun x => by rw [((kR8.set_ 0 (.bool false)).set_ 1 (.slice A1 (limbs p4).length c1)).cell]; simp) (p := ⟨(N + 2), 2, none⟩) rfl (.bool false)).far (N := (N + 2)) (fun x => by rw [(((kR8.set_ 0 (.bool false)).set_ 1 (.slice A1 (limbs p4).length c1)).set_ 2 (.bool false)).cell]; simp) (p := ⟨(N + 2), 3, none⟩) rfl (.slice A2 (limbs p3).length c2))⟩, ?_⟩
  · intro W' hW'
    simp [results, Try.results51, go_sem, hW']
  · rw [HNe.out]
    exact (((hb9.setCell (show N ≤ (N + 2) by omega) _).setCell (show N ≤ (N + 2) by omega) _).setCell (show N ≤ (N + 2) by omega) _).setCell (show N ≤ (N + 2) by omega) _
end Go.Proofs.Ytpklcjbdmikbdaa
namespace Go.Proofs.Ytpklcjbdmikbdaa
open Go.RowKit

set_option maxRecDepth 100000 in
set_option maxHeartbeats 16000000 in
theorem gearAdd_any (n1 d1 n2 d2 : Nat) (w : World) (o1 : FracOk n1 d1) (o2 : FracOk n2 d2) (b1 : n1 ≤ 32768) (b2 : d1 ≤ 32768) (b3 : n2 ≤ 32768) (b4 : d2 ≤ 32768) :
    Calls Try.prog 19 #[.agg #[.int .i64 (n1 : Int), .int .i64 (d1 : Int)], .agg #[.int .i64 (n2 : Int), .int .i64 (d2 : Int)]] w (FracR w (n1 * d2 + n2 * d1) (d1 * d2)) := by
  have HF1 : Hid (∀ V : World, _) := fun V => from_any n1 d1 V (by omega) (by omega)
  have HF2 : Hid (∀ V : World, _) := fun V => from_any n2 d2 V (by omega) (by omega)
  have HA : Hid (∀ (V : World) (x1 y1 x2 y2 : Value), MagW V x1 n1 → MagW V y1 d1 → MagW V x2 n2 → MagW V y2 d2 → _) := fun V x1 y1 x2 y2 h1 h2 h3 h4 => ratAdd_any x1 y1 x2 y2 n1 d1 n2 d2 V h1 h2 h3 h4 o1.1 o2.1 b1 b2 b3 b4
  have q1 := Nat.mul_le_mul b1 b4
  have q2 := Nat.mul_le_mul b3 b2
  have q3 := Nat.mul_le_mul b2 b4
  have q0 := Nat.mul_pos o1.1 o2.1
  obtain ⟨P, hP⟩ : ∃ P, P = n1 * d2 + n2 * d1 := ⟨_, rfl⟩
  obtain ⟨Q, hQ⟩ : ∃ Q, Q = d1 * d2 := ⟨_, rfl⟩
  have hPb : P ≤ 4611686018427387904 := by omega
  have hQb : Q ≤ 4611686018427387904 := by omega
  have hQ0 : 0 < Q := by omega
  rw [← hP, ← hQ] at HA ⊢
  have HL : Hid (∀ (V : World) (x y : Value), MagW V x P → MagW V y Q → _) := fun V x y h1 h2 => frac_any x y P Q V h1 h2 hQ0 hPb hQb
  have HO1 := Lib.hid o1
  have HO2 := Lib.hid o2
  clear q0 q1 q2 q3 hP hQ hPb hQb hQ0 b1 b2 b3 b4 o1 o2
  have e3 : ((w.alloc (.cells #[.int .i64 (n1 : Int), .int .i64 (d1 : Int)] 31)).alloc (.cells #[.int .i64 (n2 : Int), .int .i64 (d2 : Int)] 31)).heap.size = w.heap.size + 2 := by simp
  have e1 : (w.alloc (.cells #[.int .i64 (n1 : Int), .int .i64 (d1 : Int)] 31)).heap.size = w.heap.size + 1 := by simp
  have kA := ((Blk.new w 31 #[.int .i64 (n1 : Int), .int .i64 (d1 : Int)]).alloc (.cells #[.int .i64 (n2 : Int), .int .i64 (d2 : Int)] 31)).alloc (.cells #[.int .i64 0, .int .i64 0] 31)
  have kB := (Blk.new (w.alloc (.cells #[.int .i64 (n1 : Int), .int .i64 (d1 : Int)] 31)) 31 #[.int .i64 (n2 : Int), .int .i64 (d2 : Int)]).alloc (.cells #[.int .i64 0, .int .i64 0] 31)
  have kR := Blk.new ((w.alloc (.cells #[.int .i64 (n1 : Int), .int .i64 (d1 : Int)] 31)).alloc (.cells #[.int .i64 (n2 : Int), .int .i64 (d2 : Int)] 31)) 31 #[.int .i64 0, .int .i64 0]
  rw [e1] at kB
  rw [e3] at kR
  have hb1 : Below w.heap.size w (((w.alloc (.cells #[.int .i64 (n1 : Int), .int .i64 (d1 : Int)] 31)).alloc (.cells #[.int .i64 (n2 : Int), .int .i64 (d2 : Int)] 31)).alloc (.cells #[.int .i64 0, .int .i64 0] 31)) :=
    (((Below.refl _ _).alloc (Nat.le_refl _) _).alloc (by simp) _).alloc (by simp; omega) _
  clear e1 e3
  go_enter Try.func19, Try.ntmps19
  go_upto_region 1 with fail
  revert kA kB kR hb1
  generalize ((w.alloc (.cells #[.int .i64 (n1 : Int), .int .i64 (d1 : Int)] 31)).alloc (.cells #[.int .i64 (n2 : Int), .int .i64 (d2 : Int)] 31)).alloc (.cells #[.int .i64 0, .int .i64 0] 31) = w1
  generalize hNe : w.heap.size = N
  intro kA kB kR hb1
  have HNe := Lib.hid hNe
  have hsz := hb1.size
  rw [hNe] at hsz
  clear hNe
  have lR := kR.lt
  have kA2 := kA.alloc (.cells #[.int .i64 (n1 : Int), .int .i64 (d1 : Int), .int .i64 (n2 : Int), .int .i64 (d2 : Int)] 31)
  have kB2 := kB.alloc (.cells #[.int .i64 (n1 : Int), .int .i64 (d1 : Int), .int .i64 (n2 : Int), .int .i64 (d2 : Int)] 31)
  have kR2 := kR.alloc (.cells #[.int .i64 (n1 : Int), .int .i64 (d1 : Int), .int .i64 (n2 : Int), .int .i64 (d2 : Int)] 31)
  have kS2 := Blk.new w1 31 #[.int .i64 (n1 : Int), .int .i64 (d1 : Int), .int .i64 (n2 : Int), .int .i64 (d2 : Int)]
  have hb2 := hb1.trans (((Below.refl w1.heap.size w1).alloc (Nat.le_refl _) (.cells #[.int .i64 (n1 : Int), .int .i64 (d1 : Int), .int .i64 (n2 : Int), .int .i64 (d2 : Int)] 31)).mono hsz)
  have HV := Lib.hid (fvalid_any w1.heap.size 2 (w1.alloc (.cells #[.int .i64 (n1 : Int), .int .i64 (d1 : Int), .int .i64 (n2 : Int), .int .i64 (d2 : Int)] 31)) (by omega) (by simp) (fun k hk => by
    rcases (show k = 0 ∨ k = 1 by omega) with rfl | rfl
    · exact ⟨n1, d1, ⟨by rw [kS2.cell]; rfl, by rw [kS2.cell]; rfl⟩, HO1.out⟩
    · exact ⟨n2, d2, ⟨by rw [kS2.cell]; rfl, by rw [kS2.cell]; rfl⟩, HO2.out⟩))
  have cA := kA.cell
  have lA := kA.lt
  have cB := kB.cell
  have lB := kB.lt
  go_wp2_with fail
  refine HV.out.mono ?_
  rintro e wq ⟨rfl, hbv⟩
  replace kA := kA2.later hbv
  replace kB := kB2.later hbv
  replace kR := kR2.later hbv
  replace hb1 := hb2.trans (hbv.mono (by have := hb2.size; rw [HNe.out] at this; exact this))
  have lR := kR.lt
  replace hsz := hb1.size
  rw [HNe.out] at hsz
  clear cA lA cB lB kA2 kB2 kR2 kS2 hb2 hbv HV HO1 HO2
  go_upto_region 3 with fail
  refine held_var (S := fun V => Blk V N 31 #[.int .i64 (n1 : Int), .int .i64 (d1 : Int)] ∧ Blk V (N + 1) 31 #[.int .i64 (n2 : Int), .int .i64 (d2 : Int)]) (by kernel_rfl) ⟨kA.drew, kB.drew⟩ (fun V0 hV0 hS0 => ?_)
  have hb0 : Below wq.heap.size wq V0 := by rw [hV0]; exact (Below.refl _ _).drew
  clear hV0
  refine wpAnyH_take (i := 0) (v := ?_) rfl (by kernel_rfl) (by kernel_rfl) (by kernel_rfl) (fun _ _ _ h => h) (Or.inl ⟨by rfl, ?hy⟩) (by assumption) ?_
  case hy => (intro w hSw; have cA := hSw.1.cell; have lA := hSw.1.lt; have cB := hSw.2.cell; have lB := hSw.2.lt; clear hSw; go_simp; try with_reducible rfl)
  refine wpAnyH_take (i := 2) (v := ?_) rfl (by kernel_rfl) (by kernel_rfl) (by kernel_rfl) (fun _ _ _ h => h) (Or.inl ⟨by rfl, ?hy⟩) (by assumption) ?_
  case hy => (intro w hSw; have cA := hSw.1.cell; have lA := hSw.1.lt; have cB := hSw.2.cell; have lB := hSw.2.lt; clear hSw; go_simp; try with_reducible rfl)
  simp only [Act.put, List.getElem_toArray, List.getElem_cons_succ, List.getElem_cons_zero, List.setIfInBounds_toArray, List.set_cons_succ, List.set_cons_zero]
  refine wpAnyH_ready (rs := [1]) (by kernel_rfl) (by simp) (AllReadyH.cons rfl (fun K hK => ?_) AllReadyH.nil)
  go_simp
  refine (HF1.out _).mono ?_
  rintro e V1 ⟨x1, y1, rfl, hx1, hy1, hbX⟩
  replace hb0 := hb0.trans (hbX.mono hb0.size)
  refine hK.out _ _ ⟨kA.later hb0, kB.later hb0⟩ (fun _ => ?_)
  clear hK K hbX
  refine wpAnyH_ready (rs := [3]) (by kernel_rfl) (by simp) (AllReadyH.cons rfl (fun K hK => ?_) AllReadyH.nil)
  go_simp
  refine (HF2.out _).mono ?_
  rintro e V3 ⟨x2, y2, rfl, hx2, hy2, hbX⟩
  replace hb0 := hb0.trans (hbX.mono hb0.size)
  replace hx1 := hx1.later hbX
  replace hy1 := hy1.later hbX
  refine hK.out _ _ ⟨kA.later hb0, kB.later hb0⟩ (fun _ => ?_)
  clear hK K hbX
  refine wpAnyH_ready (rs := [4]) (by kernel_rfl) (by simp) (AllReadyH.cons rfl (fun K hK => ?_) AllReadyH.nil)
  go_simp
  refine (HA.out _ _ _ _ _ hx1 hy1 hx2 hy2).mono ?_
  rintro e V4 ⟨x3, y3, rfl, hx3, hy3, hbX⟩
  replace hb0 := hb0.trans (hbX.mono hb0.size)
  refine hK.out _ _ ⟨kA.later hb0, kB.later hb0⟩ (fun _ => ?_)
  clear hK K hbX hx1 hy1 hx2 hy2
  refine wpAnyH_ready (rs := [5]) (by kernel_rfl) (by simp) (AllReadyH.cons rfl (fun K hK => ?_) AllReadyH.nil)
  go_simp
  refine (HL.out _ _ _ hx3 hy3).mono ?_
  rintro e V5 ⟨rfl, hbX⟩
  replace hb0 := hb0.trans (hbX.mono hb0.size)
  refine hK.out _ _ ⟨kA.later hb0, kB.later hb0⟩ (fun _ => ?_)
  clear hK K hbX hx3 hy3
  obtain ⟨qn, hqn⟩ : ∃ q, q = P / P.gcd Q := ⟨_, rfl⟩
  obtain ⟨qd, hqd⟩ : ∃ q, q = Q / P.gcd Q := ⟨_, rfl⟩
  have HQ1 := Lib.hid hqn
  have HQ2 := Lib.hid hqd
  rw [← hqn, ← hqd]
  clear hqn hqd HF1 HF2 HA HL
  refine wpAnyH_take (i := 6) (v := ?_) rfl (by kernel_rfl) (by kernel_rfl) (by kernel_rfl) (fun _ _ _ h => h) (Or.inl ⟨by rfl, ?hy⟩) (by assumption) ?_
  case hy => (intro w hSw; have cA := hSw.1.cell; have lA := hSw.1.lt; have cB := hSw.2.cell; have lB := hSw.2.lt; clear hSw; go_simp; try with_reducible rfl)
  refine wpAnyH_take (i := 7) (v := ?_) rfl (by kernel_rfl) (by kernel_rfl) (by kernel_rfl) (fun _ _ _ h => h) (Or.inl ⟨by rfl, ?hy⟩) (by assumption) ?_
  case hy => (intro w hSw; have cA := hSw.1.cell; have lA := hSw.1.lt; have cB := hSw.2.cell; have lB := hSw.2.lt; clear hSw; go_simp; try with_reducible rfl)
  simp only [Act.put, List.getElem_toArray, List.getElem_cons_succ, List.getElem_cons_zero, List.setIfInBounds_toArray, List.set_cons_succ, List.set_cons_zero]
  have kR8 := kR.later hb0
  have cR := kR8.cell
  have fR := kR8.frozen
  have lR8 := kR8.lt
  have hb9 := hb1.trans (hb0.mono hsz)
  have kA8 := ((kA.later hb0).far (p := ⟨N + 2, 0, none⟩) (show N ≠ N + 2 by omega) (.int .i64 (qn : Int))).far (p := ⟨N + 2, 1, none⟩) (show N ≠ N + 2 by omega) (.int .i64 (qd : Int))
  have kB8 := ((kB.later hb0).far (p := ⟨N + 2, 0, none⟩) (show N + 1 ≠ N + 2 by omega) (.int .i64 (qn : Int))).far (p := ⟨N + 2, 1, none⟩) (show N + 1 ≠ N + 2 by omega) (.int .i64 (qd : Int))
  refine wpAnyH_ready (rs := [8]) (by kernel_rfl) (by simp) (AllReadyH.cons rfl (fun K hK => ?_) AllReadyH.nil)
  go_simp
  refine hK.out _ _ ⟨kA8, kB8⟩ (fun _ => ?_)
  clear hK K
  refine wpAnyH_ready (rs := [9]) (by kernel_rfl) (by simp) (AllReadyH.cons rfl (fun K hK => ?_) AllReadyH.nil)
  go_simp
  refine hK.out _ _ ⟨kA8, kB8⟩ (fun _ => ?_)
  clear hK K
  refine wpAnyH_done (by kernel_rfl) ?_ _
  go_wp2_with fail
  refine bodyPost_cell (N + 2) 31 #[.int .i64 (qn : Int), .int .i64 (qd : Int)] (.tuple #[.agg #[.int .i64 (qn : Int), .int .i64 (qd : Int)], .int .i64 0]) ((kR8.set_ 0 (.int .i64 (qn : Int))).set_ 1 (.int .i64 (qd : Int))) ?_ ⟨by rw [HQ1.out, HQ2.out], by rw [HNe.out]; exact (hb9.setCell (show N ≤ N + 2 by omega) _).setCell (show N ≤ N + 2 by omega) _⟩
  intro W' hW'
  simp [results, Try.results19, go_sem, hW']
end Go.Proofs.Ytpklcjbdmikbdaa
namespace Go.Proofs.Ytpklcjbdmikbdaa
open Go.RowKit

def pcells : List Prt → List Value
  | [] => []
  | p :: l => .int .i64 p.lo :: .int .i64 p.hi :: .bool p.neg :: pcells l
theorem pcells_len : ∀ l : List Prt, (pcells l).length = l.length * 3
  | [] => rfl
  | p :: l => by simp only [pcells, List.length_cons, pcells_len l]; omega
theorem pcells_at : ∀ {l : List Prt} {k : Nat} {p : Prt}, l[k]? = some p → (pcells l)[k * 3]? = some (.int .i64 p.lo) ∧ (pcells l)[k * 3 + 1]? = some (.int .i64 p.hi) ∧ (pcells l)[k * 3 + 2]? = some (.bool p.neg)
  | [], _, _, h => by simp at h
  | q :: l, 0, p, h => by
    obtain rfl : q = p := by simpa using h
    exact ⟨rfl, rfl, rfl⟩
  | q :: l, k + 1, p, h => by
    have h' : l[k]? = some p := by simpa using h
    obtain ⟨a, b, c⟩ := pcells_at h'
    rw [show (k + 1) * 3 = k * 3 + 3 by omega]
    exact ⟨a, b, c⟩
theorem pcells_of : ∀ {l : List Prt} {j : Nat} {u : Value}, (pcells l)[j]? = some u → ∃ (k : Nat) (p : Prt), l[k]? = some p ∧ ((j = k * 3 ∧ u = .int .i64 p.lo) ∨ (j = k * 3 + 1 ∧ u = .int .i64 p.hi) ∨ (j = k * 3 + 2 ∧ u = .bool p.neg))
  | [], _, _, h => by simp [pcells] at h
  | p :: l, 0, u, h => ⟨0, p, rfl, .inl ⟨rfl, by simpa [pcells] using h.symm⟩⟩
  | p :: l, 1, u, h => ⟨0, p, rfl, .inr (.inl ⟨rfl, by simpa [pcells] using h.symm⟩)⟩
  | p :: l, 2, u, h => ⟨0, p, rfl, .inr (.inr ⟨rfl, by simpa [pcells] using h.symm⟩)⟩
  | p :: l, j + 3, u, h => by
    obtain ⟨k, q, h1, h2⟩ := pcells_of (l := l) (j := j) (u := u) (by simpa [pcells] using h)
    refine ⟨k + 1, q, by simpa using h1, ?_⟩
    rcases h2 with ⟨a, b⟩ | ⟨a, b⟩ | ⟨a, b⟩
    · exact .inl ⟨by omega, b⟩
    · exact .inr (.inl ⟨by omega, b⟩)
    · exact .inr (.inr ⟨by omega, b⟩)
theorem pcells_one (l : List Prt) : ∀ u ∈ pcells l, u.oneCell' = true := by
  intro u hu
  obtain ⟨j, hj⟩ := List.mem_iff_getElem?.1 hu
  obtain ⟨k, p, _, h⟩ := pcells_of hj
  rcases h with ⟨_, rfl⟩ | ⟨_, rfl⟩ | ⟨_, rfl⟩ <;> rfl
theorem own_parts {w : World} {base n c : Nat} {A : Option Addr} {l : List Prt} (h : w.ownsRow base 53 3 (.slice A n c) n (pcells l)) (hn : l.length = n) : PartsH w A n l := by
  refine ⟨hn, fun h0 => ?_⟩
  obtain ⟨g, cap, e, _, hg⟩ := h.form h0
  injection e with e1 e2 e3
  subst e1 e3
  refine ⟨g, rfl, hg, fun k p hk => ?_⟩
  have hkn : k < n := by have := (List.getElem?_eq_some_iff.1 hk).1; omega
  obtain ⟨a, b, c⟩ := pcells_at hk
  exact ⟨(h.cellAt (k * 3) (by omega)).trans a, (h.cellAt (k * 3 + 1) (by omega)).trans b, (h.cellAt (k * 3 + 2) (by omega)).trans c⟩
theorem PartAny.later {w w' : World} {a : Addr} {p : Prt} (h : PartAny w a p) (ha : a.block < w.heap.size) (hb : Below w.heap.size w w') : PartAny w' a p :=
  ⟨(hb.cell ha).trans h.1, (hb.cell (p := ⟨a.block, a.off + 1, none⟩) ha).trans h.2.1, (hb.cell (p := ⟨a.block, a.off + 2, none⟩) ha).trans h.2.2⟩
theorem PartsA.later {w w' : World} {A : Option Addr} {n : Nat} {l : List Prt} (h : PartsA w A n l) (hb : Below w.heap.size w w') : PartsA w' A n l :=
  ⟨h.1, fun hn => by
    obtain ⟨a, e, ha, hc⟩ := h.2 hn
    exact ⟨a, e, Nat.lt_of_lt_of_le ha hb.size, fun k p hk => (hc k p hk).later (by rw [add_block]; exact ha) hb⟩⟩
theorem PartsA.take {w : World} {A : Option Addr} {n m : Nat} {l : List Prt} (h : PartsA w A n l) (hm : m ≤ n) : PartsA w A m (l.take m) := by
  refine ⟨by rw [List.length_take, h.1]; omega, fun h0 => ?_⟩
  obtain ⟨a, e, ha, hc⟩ := h.2 (by omega)
  refine ⟨a, e, ha, fun k p hk => hc k p ?_⟩
  have hkm : k < m := by have := (List.getElem?_eq_some_iff.1 hk).1; rw [List.length_take] at this; omega
  rwa [List.getElem?_take_of_lt hkm] at hk
theorem parts_news {w : World} {a : Addr} {n : Nat} {l : List Prt} (h : PartsA w (some a) n l) (hn : 0 < n) : ∀ j u, (pcells l)[j]? = some u → w.cell? (a.add j) = some u := by
  obtain ⟨a', e, ha, hc⟩ := h.2 hn
  cases e
  intro j u hj
  obtain ⟨k, p, hk, h3⟩ := pcells_of hj
  obtain ⟨c0, c1, c2⟩ := hc k p hk
  rcases h3 with ⟨rfl, rfl⟩ | ⟨rfl, rfl⟩ | ⟨rfl, rfl⟩
  · exact c0
  · rw [← add_off _ 1 (by omega)]; exact c1
  · rw [← add_off _ 2 (by omega)]; exact c2
theorem info53 : (Try.prog.info? 53).map (fun i => (i.zero, i.size, i.bytes)) = some (some (.agg #[.int .i64 0, .int .i64 0, .bool false]), 3, 24) := by kernel_rfl
theorem app_parts (w : World) {ops : Array Oper} {rest : List Oper} {o : Oper} {a : Act} {Q : Exit → Act → World → Prop} (hgd : o.guard = none) (s x : Operand)
    (ho : o.op = .call { callee := .builtin .append, args := #[s, x], argTypes := #[22, 22] }) (base : Nat) (v : Value) (n : Nat) (xs : List Prt) (hs : a.eval s = v) (hown : w.ownsRow base 53 3 v n (pcells xs))
    (ao : Option Addr) (m c : Nat) (l : List Prt) (hx : a.eval x = .slice ao m c) (hr : PartsA w ao m l) (hn : n + m ≤ 100000) (hbase : base ≤ w.heap.size)
    (h : ∀ v' w', w'.ownsRow base 53 3 v' (n + m) (pcells xs ++ pcells l) → w.grownBy w' v.ownBlock → wpList Try.prog ops Q rest (a.put o.dst v') w') : wpList Try.prog ops Q (o :: rest) a w := by
  obtain ⟨i0, hi, hz0, hz1, hz2⟩ := info_parts info53
  rcases Nat.eq_zero_or_pos m with z | z
  · subst z
    have hl : l = [] := List.eq_nil_of_length_eq_zero hr.1
    subst hl
    have hsrc : Src Try.prog i0.size 22 (.slice ao 0 c) 0 [] w := by
      cases ao with
      | none => exact Src.ofNil w Try.underlying22 c
      | some ad => exact Src.ofSlice w Try.underlying22 ad 0 c [] (by simp) (by simp) (by simp)
    obtain ⟨b, sl, sc, hv, hle⟩ : ∃ b sl sc, v = .slice b sl sc ∧ sl ≤ sc := by
      rcases hown.2 with ⟨h1, _⟩ | ⟨g, cap, cur, h1, _, _, h2, _⟩
      · exact ⟨_, _, _, h1, Nat.le_refl _⟩
      · exact ⟨_, _, _, h1, h2⟩
    have hrun := run_append_nothing (P := Try.prog) w 22 22 o.type 53 i0 Try.underlying22 hi b sl sc hle _ hsrc
    rw [← hv] at hrun
    refine wpList_plain hgd fun K hK => ?_
    unfold Oper.wp
    simp [execOp, ho, resolve, invoke, builtin, hs, hx, hrun, Result.andThen]
    exact hK _ _ (h v w (by simpa [pcells] using hown) (World.grownBy.refl _ _))
  · obtain ⟨ad, e, _, _⟩ := hr.2 z
    subst e
    refine wpList_append_lies w hgd s x 22 ho base 53 i0 _ 3 24 Try.underlying22 hi hz0 hz1 hz2 rfl (by decide) v n _ hs hown ad m c (pcells l) hx (by rw [pcells_len, hr.1]) (parts_news hr z) (pcells_one _) z (by unfold maxLen; omega) (by omega) hbase _ rfl ?_
    intro g cap w' hown' hgr _ _
    exact h _ _ hown' hgr
/-- What parts returns. -/
def PartR (w : World) (l : List Prt) (e : Ending) (w' : World) : Prop := ∃ A c, e = .returned (.slice A l.length c) ∧ PartsH w' A l.length l ∧ Below w.heap.size w w'
theorem PartR.of {w w1 : World} {l : List Prt} {k : Nat} {v : Value} (hl : l.length = k) (h1 : w1.ownsRow w.heap.size 53 3 v k (pcells l)) (h2 : (w.alloc (.cells #[] 53)).grownBy w1 (some w.heap.size)) : PartR w l (.returned v) w1 := by
  have hb : Below w.heap.size w w1 := ((Below.refl _ _).alloc (Nat.le_refl _) _).grown h2 (by simp) (fun q hq => by simp at hq; omega)
  subst hl
  obtain ⟨A, c, rfl⟩ := own_slice h1
  exact ⟨A, c, rfl, own_parts h1 rfl, hb⟩
set_option maxRecDepth 100000 in
set_option maxHeartbeats 4000000 in
theorem parts_any (A : Option Addr) (n c : Nat) (l : List Prt) (w : World) (rA : PartsA w A n l) (hc : n ≤ c) (hnil : A = none → c = 0) :
    Calls Try.prog 27 #[.slice A n c] w (PartR w (l.take 9)) := by
  have hb0 : Below w.heap.size w (w.alloc (.cells #[] 53)) := (Below.refl _ _).alloc (Nat.le_refl _) _
  have hmade : (w.alloc (.cells #[] 53)).ownsRow w.heap.size 53 3 (.slice (some ⟨w.heap.size, 0, none⟩) 0 0) 0 (pcells []) := World.ownsRow_made (base := w.heap.size) (e := 53) (size := 3) w #[] 0 (by simp) (by unfold maxLen; omega) (by simp)
  have hll := Lib.hid rA.1
  have rA1 := rA.later hb0
  obtain ⟨k, hk⟩ : ∃ k, k = min n 9 := ⟨_, rfl⟩
  have hmin : min (n : Int) 9 = (k : Int) := by omega
  have hT := rA1.take (m := k) (by omega)
  have HC : Hid ((l.take 9).length = k) := by show _ = _; rw [List.length_take]; have := hll.out; omega
  have e1 : Hid (l.take 9 = l.take k) := by
    show _ = _
    have h1 := hll.out
    rcases Nat.le_total n 9 with h | h
    · rw [List.take_of_length_le (by omega), List.take_of_length_le (by omega)]
    · rw [show k = 9 by omega]
  have hkc : k ≤ c := by omega
  have hkci : (k : Int) ≤ (c : Int) := by omega
  have hkq : k ≤ 100 := by omega
  have hnil' := Lib.hid hnil
  clear rA hb0 hk rA1 hnil
  rcases A with _ | a
  · have hc0 := hnil'.out rfl
    have hk0 : k = 0 := by omega
    subst hc0 hk0
    go_enter Try.func27, Try.ntmps27
    go_wp2_with (at_builtin; refine app_parts _ rfl (.tmp 3) (.tmp 8) rfl w.heap.size _ 0 [] rfl hmade none 0 0 (l.take 0) rfl hT (by omega) (by simp) ?_)
    all_goals
      intro v w1 hown hgr
      have hown2 : w1.ownsRow w.heap.size 53 3 v 0 (pcells (l.take 9)) := by rw [e1.out]; simpa [pcells] using hown
      have hfin := PartR.of HC.out hown2 (by simpa [Value.ownBlock] using hgr)
      have HFin := Lib.hid hfin
      clear hfin hown hown2 hgr
      go_wp2_with fail
      go_ret
      exact HFin.out
  · go_enter Try.func27, Try.ntmps27
    go_wp2_with (at_builtin; refine app_parts _ rfl (.tmp 3) (.tmp 8) rfl w.heap.size _ 0 [] rfl hmade (some a) k c (l.take k) rfl hT (by omega) (by simp) ?_)
    all_goals
      intro v w1 hown hgr
      have hown2 : w1.ownsRow w.heap.size 53 3 v k (pcells (l.take 9)) := by rw [e1.out]; simpa [pcells] using hown
      have hfin := PartR.of HC.out hown2 (by simpa [Value.ownBlock] using hgr)
      have HFin := Lib.hid hfin
      clear hfin hown hown2 hgr
      go_wp2_with fail
      go_ret
      exact HFin.out
end Go.Proofs.Ytpklcjbdmikbdaa
namespace Go.Proofs.Ytpklcjbdmikbdaa
open Go.RowKit

set_option maxHeartbeats 4000000 in
theorem always_no (A : Option Addr) (n c : Nat) (l : List Prt) (lo hi : Int) (w : World) (rA : PartsH w A n l) (hn : n ≤ 1000) (hr : (rightB l && spanB lo hi) = false) : Calls Try.prog 38 #[.slice A n c, .agg #[.int .i64 lo, .int .i64 hi]] w fun e w' => e = .returned (.tuple #[.bool false, .int .i64 1]) ∧ Below w.heap.size w w' := by
  have hb1 : Below w.heap.size w (w.alloc (.cells #[.int .i64 lo, .int .i64 hi] 26)) := (Below.refl _ _).alloc (Nat.le_refl _) _
  have k1 := Blk.new w 26 #[.int .i64 lo, .int .i64 hi]
  have M := right_any A n c l _ (rA.later hb1) hn
  cases hrb : rightB l with
  | false =>
    rw [hrb] at M
    have HM := Lib.hid M
    clear M hr hrb
    go_enter Try.func38, Try.ntmps38
    go_wp2_with fail
    refine HM.out.mono ?_
    rintro e w2 ⟨rfl, hb2⟩
    have hb3 := hb1.trans (hb2.mono hb1.size)
    clear HM hb1 hb2 k1
    go_wp2_with fail
    go_ret2
    exact ⟨rfl, hb3⟩
  | true =>
    rw [hrb] at M hr
    have hsp : spanB lo hi = false := by simpa using hr
    have HM := Lib.hid M
    have HV : Hid (∀ w, Calls Try.prog 62 #[.agg #[.int .i64 lo, .int .i64 hi]] w fun e w' => e = .returned (.bool false) ∧ Below w.heap.size w w') := fun w => by have := valid_any lo hi w; rw [hsp] at this; exact this
    clear M hr hrb hsp
    go_enter Try.func38, Try.ntmps38
    go_wp2_with fail
    refine HM.out.mono ?_
    rintro e w2 ⟨rfl, hb2⟩
    have k2 := k1.later hb2
    have c2 := k2.cell
    have l2 := k2.lt
    have hb3 := hb1.trans (hb2.mono hb1.size)
    clear HM hb1 hb2 k1
    go_wp2_with fail
    refine (HV.out _).mono ?_
    rintro e w3 ⟨rfl, hb4⟩
    have hb5 := hb3.trans (hb4.mono hb3.size)
    clear c2 l2 hb3 hb4
    go_wp2_with fail
    go_ret2
    exact ⟨rfl, hb5⟩
set_option maxHeartbeats 4000000 in
theorem always_yes (A : Option Addr) (n c : Nat) (l : List Prt) (lo hi : Int) (w : World) (rA : PartsH w A n l) (hr : rightB l = true) (hsp : spanB lo hi = true) : Calls Try.prog 38 #[.slice A n c, .agg #[.int .i64 lo, .int .i64 hi]] w fun e w' => e = .returned (.tuple #[.bool ((decide (lo ≤ lowL l) && decide (lowL l ≤ hi)) && (decide (lo ≤ highL l) && decide (highL l ≤ hi))), .int .i64 0]) ∧ Below w.heap.size w w' := by
  obtain ⟨hok, h1, h8⟩ := rightB_iff.1 hr
  have hn : n ≤ 8 := by rw [← rA.1]; exact h8
  have hb1 : Below w.heap.size w (w.alloc (.cells #[.int .i64 lo, .int .i64 hi] 26)) := (Below.refl _ _).alloc (Nat.le_refl _) _
  have k1 := Blk.new w 26 #[.int .i64 lo, .int .i64 hi]
  have M := right_any A n c l _ (rA.later hb1) (by omega)
  rw [hr] at M
  have HM := Lib.hid M
  have HV : Hid (∀ w, Calls Try.prog 62 #[.agg #[.int .i64 lo, .int .i64 hi]] w fun e w' => e = .returned (.bool true) ∧ Below w.heap.size w w') := fun w => by have := valid_any lo hi w; rw [hsp] at this; exact this
  have HOK := Lib.hid hok
  clear M hr hok hsp
  go_enter Try.func38, Try.ntmps38
  go_wp2_with fail
  refine HM.out.mono ?_
  rintro e w2 ⟨rfl, hb2⟩
  have k2 := k1.later hb2
  have c2 := k2.cell
  have l2 := k2.lt
  have hb3 := hb1.trans (hb2.mono hb1.size)
  clear HM hb1 hb2 k1
  go_wp2_with fail
  refine (HV.out _).mono ?_
  rintro e w3 ⟨rfl, hb4⟩
  have k3 := k2.later hb4
  have hb5 := hb3.trans (hb4.mono hb3.size)
  clear c2 l2 hb3 hb4
  have HE := Lib.hid (ends_any A n c l w3 (rA.later hb5) HOK.out hn)
  go_wp2_with fail
  refine HE.out.mono ?_
  rintro e w4 ⟨rfl, hb6⟩
  have k4 := k3.later hb6
  have hb7 := hb5.trans (hb6.mono hb5.size)
  obtain ⟨L, hL⟩ : ∃ L, L = lowL l := ⟨_, rfl⟩
  obtain ⟨H, hH⟩ : ∃ H, H = highL l := ⟨_, rfl⟩
  rw [← hL, ← hH]
  have HLO := Lib.hid hL
  have HHI := Lib.hid hH
  clear HE hb5 hb6 k2 k3 hL hH
  have kS := Blk.new w4 26 #[.int .i64 L, .int .i64 H]
  have hb8 : Below w4.heap.size w4 (w4.alloc (.cells #[.int .i64 L, .int .i64 H] 26)) := (Below.refl _ _).alloc (Nat.le_refl _) _
  have k5 := k4.later hb8
  have hb9 := hb7.trans (hb8.mono hb7.size)
  clear hb7 hb8
  go_upto_region 4 with fail
  revert kS k5 hb9
  generalize w4.alloc (.cells #[.int .i64 L, .int .i64 H] 26) = w5
  generalize w4.heap.size = Sb
  clear k4
  intro kS k5 hb9
  have cS := kS.cell
  have lS := kS.lt
  have c5 := k5.cell
  have l5 := k5.lt
  obtain ⟨b1, h1⟩ : ∃ b, (decide (lo ≤ L) && decide (L ≤ hi)) = b := ⟨_, rfl⟩
  have HI : Hid (∀ w, Calls Try.prog 65 #[.int .i64 L, .agg #[.int .i64 lo, .int .i64 hi]] w fun e w' => e = .returned (.bool b1) ∧ Below w.heap.size w w') := fun w => by rw [← h1]; exact inS_any L lo hi w
  have HJ := Lib.hid (fun w => inS_any H lo hi w)
  have HB := Lib.hid h1
  clear h1
  cases b1
  · go_wp2_with fail
    refine (HI.out _).mono ?_
    rintro e w6 ⟨rfl, hb10⟩
    go_wp2_with fail
    go_ret2
    exact ⟨by rw [← HLO.out, ← HHI.out, HB.out]; rfl, hb9.trans (hb10.mono hb9.size)⟩
  · go_wp2_with fail
    refine (HI.out _).mono ?_
    rintro e w6 ⟨rfl, hb10⟩
    have kS6 := kS.later hb10
    have k6 := k5.later hb10
    have hb11 := hb9.trans (hb10.mono hb9.size)
    clear cS lS c5 l5 kS k5 hb9 hb10
    have cS := kS6.cell
    have lS := kS6.lt
    have c5 := k6.cell
    have l5 := k6.lt
    go_wp2_with fail
    refine (HJ.out _).mono ?_
    rintro e w7 ⟨rfl, hb12⟩
    go_wp2_with fail
    go_ret2
    exact ⟨by rw [← HLO.out, ← HHI.out, HB.out]; rfl, hb11.trans (hb12.mono hb11.size)⟩
set_option maxHeartbeats 4000000 in
theorem ever_no (A : Option Addr) (n c : Nat) (l : List Prt) (lo hi : Int) (w : World) (rA : PartsH w A n l) (hn : n ≤ 1000) (hr : (rightB l && spanB lo hi) = false) : Calls Try.prog 39 #[.slice A n c, .agg #[.int .i64 lo, .int .i64 hi]] w fun e w' => e = .returned (.tuple #[.bool false, .int .i64 1]) ∧ Below w.heap.size w w' := by
  have hb1 : Below w.heap.size w (w.alloc (.cells #[.int .i64 lo, .int .i64 hi] 26)) := (Below.refl _ _).alloc (Nat.le_refl _) _
  have k1 := Blk.new w 26 #[.int .i64 lo, .int .i64 hi]
  have M := right_any A n c l _ (rA.later hb1) hn
  cases hrb : rightB l with
  | false =>
    rw [hrb] at M
    have HM := Lib.hid M
    clear M hr hrb
    go_enter Try.func39, Try.ntmps39
    go_wp2_with fail
    refine HM.out.mono ?_
    rintro e w2 ⟨rfl, hb2⟩
    have hb3 := hb1.trans (hb2.mono hb1.size)
    clear HM hb1 hb2 k1
    go_wp2_with fail
    go_ret2
    exact ⟨rfl, hb3⟩
  | true =>
    rw [hrb] at M hr
    have hsp : spanB lo hi = false := by simpa using hr
    have HM := Lib.hid M
    have HV : Hid (∀ w, Calls Try.prog 62 #[.agg #[.int .i64 lo, .int .i64 hi]] w fun e w' => e = .returned (.bool false) ∧ Below w.heap.size w w') := fun w => by have := valid_any lo hi w; rw [hsp] at this; exact this
    clear M hr hrb hsp
    go_enter Try.func39, Try.ntmps39
    go_wp2_with fail
    refine HM.out.mono ?_
    rintro e w2 ⟨rfl, hb2⟩
    have k2 := k1.later hb2
    have c2 := k2.cell
    have l2 := k2.lt
    have hb3 := hb1.trans (hb2.mono hb1.size)
    clear HM hb1 hb2 k1
    go_wp2_with fail
    refine (HV.out _).mono ?_
    rintro e w3 ⟨rfl, hb4⟩
    have hb5 := hb3.trans (hb4.mono hb3.size)
    clear c2 l2 hb3 hb4
    go_wp2_with fail
    go_ret2
    exact ⟨rfl, hb5⟩
set_option maxHeartbeats 4000000 in
theorem ever_yes (A : Option Addr) (n c : Nat) (l : List Prt) (lo hi : Int) (w : World) (rA : PartsH w A n l) (hr : rightB l = true) (hsp : spanB lo hi = true) : Calls Try.prog 39 #[.slice A n c, .agg #[.int .i64 lo, .int .i64 hi]] w fun e w' => e = .returned (.tuple #[.bool (decide (lowL l ≤ hi) && decide (lo ≤ highL l)), .int .i64 0]) ∧ Below w.heap.size w w' := by
  obtain ⟨hok, h1, h8⟩ := rightB_iff.1 hr
  have hn : n ≤ 8 := by rw [← rA.1]; exact h8
  have hb1 : Below w.heap.size w (w.alloc (.cells #[.int .i64 lo, .int .i64 hi] 26)) := (Below.refl _ _).alloc (Nat.le_refl _) _
  have k1 := Blk.new w 26 #[.int .i64 lo, .int .i64 hi]
  have M := right_any A n c l _ (rA.later hb1) (by omega)
  rw [hr] at M
  have HM := Lib.hid M
  have HV : Hid (∀ w, Calls Try.prog 62 #[.agg #[.int .i64 lo, .int .i64 hi]] w fun e w' => e = .returned (.bool true) ∧ Below w.heap.size w w') := fun w => by have := valid_any lo hi w; rw [hsp] at this; exact this
  have HOK := Lib.hid hok
  clear M hr hok hsp
  go_enter Try.func39, Try.ntmps39
  go_wp2_with fail
  refine HM.out.mono ?_
  rintro e w2 ⟨rfl, hb2⟩
  have k2 := k1.later hb2
  have c2 := k2.cell
  have l2 := k2.lt
  have hb3 := hb1.trans (hb2.mono hb1.size)
  clear HM hb1 hb2 k1
  go_wp2_with fail
  refine (HV.out _).mono ?_
  rintro e w3 ⟨rfl, hb4⟩
  have k3 := k2.later hb4
  have hb5 := hb3.trans (hb4.mono hb3.size)
  clear c2 l2 hb3 hb4
  have HE := Lib.hid (ends_any A n c l w3 (rA.later hb5) HOK.out hn)
  go_wp2_with fail
  refine HE.out.mono ?_
  rintro e w4 ⟨rfl, hb6⟩
  have k4 := k3.later hb6
  have hb7 := hb5.trans (hb6.mono hb5.size)
  obtain ⟨L, hL⟩ : ∃ L, L = lowL l := ⟨_, rfl⟩
  obtain ⟨H, hH⟩ : ∃ H, H = highL l := ⟨_, rfl⟩
  rw [← hL, ← hH]
  have HLO := Lib.hid hL
  have HHI := Lib.hid hH
  clear HE hb5 hb6 k2 k3 hL hH
  have kS := Blk.new w4 26 #[.int .i64 L, .int .i64 H]
  have hb8 : Below w4.heap.size w4 (w4.alloc (.cells #[.int .i64 L, .int .i64 H] 26)) := (Below.refl _ _).alloc (Nat.le_refl _) _
  have k5 := k4.later hb8
  have hb9 := hb7.trans (hb8.mono hb7.size)
  clear hb7 hb8
  go_upto_region 4 with fail
  revert kS k5 hb9
  generalize w4.alloc (.cells #[.int .i64 L, .int .i64 H] 26) = w5
  generalize w4.heap.size = Sb
  clear k4
  intro kS k5 hb9
  have cS := kS.cell
  have lS := kS.lt
  have c5 := k5.cell
  have l5 := k5.lt
  by_cases h1 : L ≤ hi
  · have d1 : decide (L ≤ hi) = true := decide_eq_true h1
    go_wp2_with fail
    go_ret2
    exact ⟨by rw [← HLO.out, ← HHI.out, d1]; rfl, hb9⟩
  · have d1 : decide (L ≤ hi) = false := decide_eq_false h1
    go_wp2_with fail
    go_ret2
    exact ⟨by rw [← HLO.out, ← HHI.out, d1]; rfl, hb9⟩
end Go.Proofs.Ytpklcjbdmikbdaa
namespace Go.Proofs.Ytpklcjbdmikbdaa
open Go.RowKit

set_option maxRecDepth 100000 in
set_option maxHeartbeats 8000000 in
theorem rStack_any (A : Option Addr) (n c : Nat) (l : List Prt) (w : World) (rA : PartsH w A n l) (hn : n ≤ 1000) : Calls Try.prog 29 #[.slice A n c] w fun e w' => e = .returned (.bool (rightB l)) ∧ Below w.heap.size w w' := by
  have HAn := Lib.hid rA.1
  have HI := Lib.hid (fun w => rin_any (n : Int) 1 8 w)
  have HR0 : Hid (rightB l = (l.all okB && (decide ((1 : Int) ≤ (n : Int)) && decide ((n : Int) ≤ 8)))) := by
    show _ = _
    unfold rightB
    rw [HAn.out]
    congr 1
    congr 1 <;> (apply Bool.eq_iff_iff.2; simp only [decide_eq_true_eq]; omega)
  cases hin : (decide ((1 : Int) ≤ (n : Int)) && decide ((n : Int) ≤ 8)) with
  | false =>
    have HI2 : Hid (∀ w, Calls Try.prog 60 #[.int .i64 (n : Int), .int .i64 1, .int .i64 8] w fun e w' => e = .returned (.bool false) ∧ w = w') := fun w => by have := HI.out w; rw [hin] at this; exact this
    have HR : Hid (rightB l = false) := by show _ = _; rw [HR0.out, hin, Bool.and_false]
    clear hin HI HR0
    go_enter Try.func29, Try.ntmps29
    go_wp2_with fail
    refine (HI2.out _).mono ?_
    rintro e w2 ⟨rfl, rfl⟩
    go_wp2_with fail
    go_ret
    exact ⟨by rw [HR.out]; rfl, Below.refl _ _⟩
  | true =>
    have HI2 : Hid (∀ w, Calls Try.prog 60 #[.int .i64 (n : Int), .int .i64 1, .int .i64 8] w fun e w' => e = .returned (.bool true) ∧ w = w') := fun w => by have := HI.out w; rw [hin] at this; exact this
    have HR : Hid (rightB l = l.all okB) := by show _ = _; rw [HR0.out, hin, Bool.and_true]
    clear hin HI HR0
    go_enter Try.func29, Try.ntmps29
    go_wp2_with fail
    refine (HI2.out _).mono ?_
    rintro e w2 ⟨rfl, rfl⟩
    clear HI2
    go_wp2_with fail
    go_loopw [3] (fun i wr => ∃ k : Nat, k ≤ n ∧ i = .int .i64 k ∧ Hid ((l.take k).all okB = true) ∧ Below w.heap.size w wr) (fun i _ => n - (RowKit.intOf i).toNat)
    case atStart => exact ⟨0, Nat.zero_le _, rfl, rfl, Below.refl _ _⟩
    case round =>
      obtain ⟨k, hk, rfl, hS, hb⟩ := hrel
      by_cases hlt : k < n
      · obtain ⟨g, p, rfl, hg, hlk, hp1, hp2, hp3⟩ := (rA.later hb).at_ hlt
        have hkn : (k : Int) < (n : Int) := by omega
        have HLK := Lib.hid hlk
        clear hlk
        have hd : decide ((k : Int) < (n : Int)) = true := decide_eq_true hkn
        have hxl := later_cell (w := wr)
        cases hsp : spanB p.lo p.hi with
        | false =>
          have HM : Hid (∀ w, Calls Try.prog 30 #[.agg #[.int .i64 p.lo, .int .i64 p.hi], .int .i64 1000000] w fun e w' => e = .returned (.bool false) ∧ Below w.heap.size w w') := fun w => by have := rSpan_any p.lo p.hi 1000000 w (by omega) (by omega); rw [span_same, hsp] at this; exact this
          have HR2 : Hid (rightB l = false) := right_not HLK.out (by unfold okB; rw [hsp]; rfl)
          clear hsp HR hS
          go_wp2_with fail
          refine wp_region_later (by kernel_rfl) (by kernel_rfl) ?_
          repeat (go_big_quiet_step ((go_at_call 30; exact later_call (HM.out _))))
          refine wpQuiet_nil ?_
          rintro w2 ⟨⟨_, hb2⟩, rfl⟩
          have hb3 := hb.trans (hb2.mono hb.size)
          clear hxl hp1 hp2 hp3 hb hb2 HM
          go_wp2_with fail
          go_ret
          exact ⟨by rw [HR2.out]; rfl, hb3⟩
        | true =>
          have HM : Hid (∀ w, Calls Try.prog 30 #[.agg #[.int .i64 p.lo, .int .i64 p.hi], .int .i64 1000000] w fun e w' => e = .returned (.bool true) ∧ Below w.heap.size w w') := fun w => by have := rSpan_any p.lo p.hi 1000000 w (by omega) (by omega); rw [span_same, hsp] at this; exact this
          obtain ⟨s1, s2, s3⟩ := spanB_iff.1 hsp
          by_cases hw : p.hi - p.lo ≤ 100
          · have HS2 := Lib.hid (all_snoc HLK.out hS.out (okB_iff.2 ⟨s1, s2, s3, hw⟩))
            have hwd : decide (p.hi - p.lo > 100) = false := by simp; omega
            clear hsp HR hS
            go_wp2_with fail
            refine wp_region_later (by kernel_rfl) (by kernel_rfl) ?_
            repeat (go_big_quiet_step ((go_at_call 30; exact later_call (HM.out _))))
            refine wpQuiet_nil ?_
            rintro w2 ⟨⟨_, hb2⟩, rfl⟩
            have hb3 := hb.trans (hb2.mono hb.size)
            clear hxl hp1 hp2 hp3 hb hb2 HM
            go_wp2_with fail
            go_roundw
            case rel => exact ⟨k + 1, by omega, by go_num, HS2.out, hb3⟩
            case measure => simp [RowKit.intOf]; omega
          · have HR2 : Hid (rightB l = false) := right_not HLK.out (by unfold okB; rw [hsp, decide_eq_false hw]; rfl)
            have hwd : decide (p.hi - p.lo > 100) = true := by simp; omega
            clear hsp HR hS
            go_wp2_with fail
            refine wp_region_later (by kernel_rfl) (by kernel_rfl) ?_
            repeat (go_big_quiet_step ((go_at_call 30; exact later_call (HM.out _))))
            refine wpQuiet_nil ?_
            rintro w2 ⟨⟨_, hb2⟩, rfl⟩
            have hb3 := hb.trans (hb2.mono hb.size)
            clear hxl hp1 hp2 hp3 hb hb2 HM
            go_wp2_with fail
            go_ret
            exact ⟨by rw [HR2.out]; rfl, hb3⟩
      · obtain rfl : k = n := by omega
        have HR2 : Hid (rightB l = true) := by
          show _ = _
          rw [HR.out]
          have := hS.out
          rwa [← HAn.out, List.take_length] at this
        clear hS
        go_wp2_with fail
        go_ret
        exact ⟨by rw [HR2.out]; rfl, hb⟩
end Go.Proofs.Ytpklcjbdmikbdaa
namespace Go.Proofs.Ytpklcjbdmikbdaa
open Go.RowKit

theorem grown_drew {w w' : World} {r : Option Nat} (h : w.grownBy w' r) : w.grownBy w'.drew r := ⟨h.os, h.tape, h.output, h.size, h.block⟩
set_option maxRecDepth 100000 in
set_option maxHeartbeats 8000000 in
theorem rGaps_any (A : Option Addr) (n c : Nat) (l : List Prt) (w : World) (rA : PartsH w A n l) (hok : okPs l) (hn : n ≤ 8) : Calls Try.prog 40 #[.slice A n c] w fun e w' => e = .returned (.agg #[.int .i64 (lowL l), .int .i64 (highL l)]) ∧ Below w.heap.size w w' := by
  have HAn := Lib.hid rA.1
  have HOK := Lib.hid hok
  have hsz : (w.alloc (.cells #[.int .i64 0, .int .i64 0] 26)).heap.size = w.heap.size + 1 := by simp
  have kR := (Blk.new w 26 #[.int .i64 0, .int .i64 0])
  have hb1 : Below w.heap.size w (w.alloc (.cells #[.int .i64 0, .int .i64 0] 26)) := (Below.refl _ _).alloc (Nat.le_refl _) _
  have hb2 : Below (w.alloc (.cells #[.int .i64 0, .int .i64 0] 26)).heap.size (w.alloc (.cells #[.int .i64 0, .int .i64 0] 26)) ((w.alloc (.cells #[.int .i64 0, .int .i64 0] 26)).alloc (.cells #[.int .i64 0, .int .i64 0] 26)) := (Below.refl _ _).alloc (Nat.le_refl _) _
  have kS := Blk.new (w.alloc (.cells #[.int .i64 0, .int .i64 0] 26)) 26 #[.int .i64 0, .int .i64 0]
  rw [hsz] at kS
  have kR2 := kR.later hb2
  have hb3 := hb1.trans (hb2.mono (by rw [hsz]; exact Nat.le_succ _))
  have HA : Hid (∀ wr, Below w.heap.size w wr → PartsH wr A n l) := fun wr hb => rA.later hb
  clear hok hsz kR hb1 hb2 rA
  go_enter Try.func40, Try.ntmps40
  go_upto_region 2 with fail
  revert kS kR2 hb3 HA
  generalize (w.alloc (.cells #[.int .i64 0, .int .i64 0] 26)).alloc (.cells #[.int .i64 0, .int .i64 0] 26) = w1
  generalize hNe : w.heap.size = N
  intro kS kR2 hb3 HA
  have HNe := Lib.hid hNe
  clear hNe
  have hlS := kS.lt
  have hl0 : lowL [] = 0 := rfl
  have hh0 : highL [] = 0 := rfl
  go_wp2_with fail
  go_loopw [4] (fun i wr => ∃ k : Nat, k ≤ n ∧ i = .int .i64 k ∧ Blk wr (N + 1) 26 #[.int .i64 (lowL (l.take k)), .int .i64 (highL (l.take k))] ∧ w1.grownBy wr (some (N + 1))) (fun i _ => n - (RowKit.intOf i).toNat)
  case atStart => exact ⟨0, Nat.zero_le _, rfl, kS, World.grownBy.refl _ _⟩
  case round =>
    clear kS hl0 hh0
    obtain ⟨k, hk, rfl, kS, hgr⟩ := hrel
    have kR := kR2.grown hgr (by simp)
    have hbw := hb3.grown hgr (by have h1 := hb3.size; rw [HNe.out] at h1; exact h1) (fun i hi => by cases hi; exact Nat.le_succ _)
    by_cases hlt : k < n
    · obtain ⟨g, p, rfl, hg, hlk, hp1, hp2, hp3⟩ := (HA.out wr hbw).at_ hlt
      have hkn : (k : Int) < (n : Int) := by omega
      have hp := okP_ends (HOK.out p (List.mem_of_getElem? hlk))
      obtain ⟨po1, po2, po3, po4⟩ := HOK.out p (List.mem_of_getElem? hlk)
      have hb := ends_take HOK.out (by rw [HAn.out]; exact hn) k
      obtain ⟨q1, q2⟩ := ends_step hlk
      obtain ⟨L, hL⟩ : ∃ L, L = lowL (l.take k) := ⟨_, rfl⟩
      obtain ⟨H, hH⟩ : ∃ H, H = highL (l.take k) := ⟨_, rfl⟩
      rw [← hL] at kS hb q1
      rw [← hH] at kS hb q2
      obtain ⟨b1, b2, b3⟩ := hb
      have HS0 := Lib.hid q1
      have HS1 := Lib.hid q2
      clear hL hH q1 q2 hlk hp
      have kP := Blk.new wr 53 #[.int .i64 p.lo, .int .i64 p.hi, .bool p.neg]
      have hba : Below wr.heap.size wr (wr.alloc (.cells #[.int .i64 p.lo, .int .i64 p.hi, .bool p.neg] 53)) := (Below.refl _ _).alloc (Nat.le_refl _) _
      have kS2 := kS.later hba
      have hgr2 := only_trans_below hgr hba
      have hlN := kS.lt
      go_upto_region 6 with fail
      clear hp1 hp2 hp3 hba kS hgr
      revert kP kS2 hgr2 hlN
      generalize wr.alloc (.cells #[.int .i64 p.lo, .int .i64 p.hi, .bool p.neg] 53) = w2
      generalize wr.heap.size = Pb
      intro kP2 kS2 hgr2 hlN
      cases hng : p.neg
      · rw [hng] at kP2
        have HE0 : Hid (L + p.low = L + p.lo) := by show _ = _; unfold Prt.low; rw [hng]; simp <;> omega
        have HE1 : Hid (H + p.high = H + p.hi) := by show _ = _; unfold Prt.high; rw [hng]; simp <;> omega
        have kS3 := kS2.set_ 0 (.int .i64 (L + p.lo))
        have kP3 := kP2.far (p := ⟨N + 1, 0, none⟩) (by simp; omega) (.int .i64 (L + p.lo))
        have kS4 := kS3.set_ 1 (.int .i64 (H + p.hi))
        have hgr3 := only_setCell hgr2 (p := ⟨N + 1, 0, none⟩) (.inl rfl) (.int .i64 (L + p.lo))
        have hgr4 := only_setCell hgr3 (p := ⟨N + 1, 1, none⟩) (.inl rfl) (.int .i64 (H + p.hi))
        have cS2 := kS2.cell
        have fS2 := kS2.frozen
        have cP2 := kP2.cell
        have lS2 := kS2.lt
        have lP2 := kP2.lt
        have cS3 := kS3.cell
        have fS3 := kS3.frozen
        have cP3 := kP3.cell
        have KS4 : Hid (Blk ((w2.setCell ⟨N + 1, 0, none⟩ (.int .i64 (L + p.lo))).setCell ⟨N + 1, 1, none⟩ (.int .i64 (H + p.hi))) (N + 1) 26 #[.int .i64 (lowL (l.take (k + 1))), .int .i64 (highL (l.take (k + 1)))]) := by
          have e0 := HS0.out
          have e1 := HS1.out
          rw [HE0.out] at e0
          rw [HE1.out] at e1
          rw [e0, e1]
          exact kS4
        have HG4 := Lib.hid hgr4
        clear kS2 kP2 kS3 kP3 kS4 hgr2 hgr3 hgr4 hbw kR
        go_wp2_with fail
        go_region
        go_wp2_with fail
        go_roundw
        case rel => exact ⟨k + 1, by omega, by go_num, KS4.out, grown_drew HG4.out⟩
        case measure => simp [RowKit.intOf]; omega
      · rw [hng] at kP2
        have HE0 : Hid (L + p.low = L - p.hi) := by show _ = _; unfold Prt.low; rw [hng]; simp <;> omega
        have HE1 : Hid (H + p.high = H - p.lo) := by show _ = _; unfold Prt.high; rw [hng]; simp <;> omega
        have kS3 := kS2.set_ 0 (.int .i64 (L - p.hi))
        have kP3 := kP2.far (p := ⟨N + 1, 0, none⟩) (by simp; omega) (.int .i64 (L - p.hi))
        have kS4 := kS3.set_ 1 (.int .i64 (H - p.lo))
        have hgr3 := only_setCell hgr2 (p := ⟨N + 1, 0, none⟩) (.inl rfl) (.int .i64 (L - p.hi))
        have hgr4 := only_setCell hgr3 (p := ⟨N + 1, 1, none⟩) (.inl rfl) (.int .i64 (H - p.lo))
        have cS2 := kS2.cell
        have fS2 := kS2.frozen
        have cP2 := kP2.cell
        have lS2 := kS2.lt
        have lP2 := kP2.lt
        have cS3 := kS3.cell
        have fS3 := kS3.frozen
        have cP3 := kP3.cell
        have KS4 : Hid (Blk ((w2.setCell ⟨N + 1, 0, none⟩ (.int .i64 (L - p.hi))).setCell ⟨N + 1, 1, none⟩ (.int .i64 (H - p.lo))) (N + 1) 26 #[.int .i64 (lowL (l.take (k + 1))), .int .i64 (highL (l.take (k + 1)))]) := by
          have e0 := HS0.out
          have e1 := HS1.out
          rw [HE0.out] at e0
          rw [HE1.out] at e1
          rw [e0, e1]
          exact kS4
        have HG4 := Lib.hid hgr4
        clear kS2 kP2 kS3 kP3 kS4 hgr2 hgr3 hgr4 hbw kR
        go_wp2_with fail
        go_region
        go_wp2_with fail
        go_roundw
        case rel => exact ⟨k + 1, by omega, by go_num, KS4.out, grown_drew HG4.out⟩
        case measure => simp [RowKit.intOf]; omega
    · obtain rfl : k = n := by omega
      have HT : Hid (l.take k = l) := by show _ = _; rw [← HAn.out, List.take_length]
      rw [HT.out] at kS
      obtain ⟨lo, hlo⟩ : ∃ lo, lo = lowL l := ⟨_, rfl⟩
      obtain ⟨hi, hhi⟩ : ∃ hi, hi = highL l := ⟨_, rfl⟩
      rw [← hlo, ← hhi] at kS
      have HLO := Lib.hid hlo
      have HHI := Lib.hid hhi
      clear hlo hhi
      have cS := kS.cell
      have cR := kR.cell
      have fR := kR.frozen
      have lR := kR.lt
      have lS := kS.lt
      go_wp2_with fail
      refine bodyPost_cell N 26 #[.int .i64 lo, .int .i64 hi] (.agg #[.int .i64 lo, .int .i64 hi]) ((kR.set_ 0 (.int .i64 lo)).set_ 1 (.int .i64 hi)) ?_ ⟨by rw [HLO.out, HHI.out], by rw [HNe.out]; exact (hbw.setCell (Nat.le_refl _) _).setCell (Nat.le_refl _) _⟩
      intro W' hW'
      simp [results, Try.results40, go_sem, hW']
end Go.Proofs.Ytpklcjbdmikbdaa
namespace Go.Proofs.Ytpklcjbdmikbdaa
open Go.RowKit

theorem wd_int {p : Prt} (h : okP p) : (p.wd : Int) = p.hi - p.lo + 1 := by unfold okP at h; unfold Prt.wd; omega
theorem gaps_step {l : List Prt} {k : Nat} {p : Prt} (h : l[k]? = some p) : (gapsL (l.take (k + 1))).length = (gapsL (l.take k)).length * p.wd := by
  rw [List.take_add_one, h, Option.toList_some, gapsL_snoc, spread_len]
set_option maxRecDepth 100000 in
set_option maxHeartbeats 8000000 in
theorem rChoices_any (A : Option Addr) (n c : Nat) (l : List Prt) (w : World) (rA : PartsH w A n l) (hok : okPs l) (hn : n ≤ 8) : Calls Try.prog 31 #[.slice A n c] w fun e w' => e = .returned (.int .i64 ((gapsL l).length : Nat)) ∧ Below w.heap.size w w' := by
  have HAn := Lib.hid rA.1
  have HOK := Lib.hid hok
  have HG0 : Hid ((gapsL (l.take 0)).length = 1) := rfl
  clear hok
  go_enter Try.func31, Try.ntmps31
  go_wp2_with fail
  go_loopw [3, 4] (fun m i wr => ∃ k q : Nat, k ≤ n ∧ i = .int .i64 k ∧ m = .int .i64 q ∧ Hid (q = (gapsL (l.take k)).length) ∧ Below w.heap.size w wr) (fun _ i _ => n - (RowKit.intOf i).toNat)
  case atStart => exact ⟨0, 1, Nat.zero_le _, rfl, rfl, HG0.out.symm, Below.refl _ _⟩
  case round =>
    clear HG0
    obtain ⟨k, q, hk, rfl, rfl, hS, hb⟩ := hrel
    by_cases hlt : k < n
    · obtain ⟨g, p, rfl, hg, hlk, hp1, hp2, hp3⟩ := (rA.later hb).at_ hlt
      have hkn : (k : Int) < (n : Int) := by omega
      have hd : decide ((k : Int) < (n : Int)) = true := decide_eq_true hkn
      obtain ⟨po1, po2, po3, po4⟩ := HOK.out p (List.mem_of_getElem? hlk)
      have hwd := wd_int (HOK.out p (List.mem_of_getElem? hlk))
      have hq : Hid (q * p.wd = (gapsL (l.take (k + 1))).length) := by show _ = _; rw [gaps_step hlk, hS.out]
      have hbd : q * p.wd ≤ 10828567056280801 := by
        rw [hq.out]
        exact choices_bound (okPs_take HOK.out _) (by rw [List.length_take, HAn.out]; omega)
      have hmul : (q : Int) * (p.hi - p.lo + 1) = ((q * p.wd : Nat) : Int) := by rw [← hwd]; push_cast; rfl
      have hqb : q ≤ 10828567056280801 := by
        rw [hS.out]
        exact choices_bound (okPs_take HOK.out _) (by rw [List.length_take, HAn.out]; omega)
      clear hlk hwd hS
      generalize q * p.wd = q2 at *
      go_wp2_with fail
      go_region
      go_wp2_with fail
      go_roundw
      case rel => exact ⟨k + 1, q2, by omega, by go_num, by first | rfl | rw [hmul] , hq, hb.drew⟩
      case measure => simp [RowKit.intOf]; omega
    · obtain rfl : k = n := by omega
      have HR2 : Hid (q = (gapsL l).length) := by
        show _ = _
        rw [hS.out, ← HAn.out, List.take_length]
      clear hS
      go_wp2_with fail
      go_ret
      exact ⟨by rw [← HR2.out]; rfl, hb⟩
theorem goodN_split (lo at_ hi : Int) (h1 : lo ≤ at_) (h2 : at_ < hi) (S : List Int) : goodN lo at_ S + goodN (at_ + 1) hi S = goodN lo hi S := by
  unfold goodN
  rw [← sum_add]
  congr 1
  refine List.map_congr_left fun x _ => ?_
  unfold inN
  by_cases a : lo ≤ x <;> by_cases b : x ≤ at_ <;> by_cases c : x ≤ hi
  all_goals first
    | (exfalso; omega)
    | (simp [a, b, c]; try omega)
end Go.Proofs.Ytpklcjbdmikbdaa
namespace Go.Proofs.Ytpklcjbdmikbdaa
open Go.RowKit

theorem opts_iff {p : Prt} (h : okP p) (y : Int) : y ∈ p.opts ↔ p.low ≤ y ∧ y ≤ p.high := by
  unfold okP at h
  constructor
  · intro hy
    have := mem_opts hy
    unfold Prt.low Prt.high
    rcases this with ⟨e, a, b⟩ | ⟨e, a, b⟩ <;> rw [e] <;> simp <;> omega
  · intro ⟨a, b⟩
    unfold Prt.low at a
    unfold Prt.high at b
    cases hn : p.neg
    · rw [hn] at a b
      simp at a b
      refine List.mem_map.2 ⟨(y - p.lo).toNat, List.mem_range.2 (by unfold Prt.wd; omega), ?_⟩
      unfold Prt.off
      rw [hn]
      simp
      omega
    · rw [hn] at a b
      simp at a b
      refine List.mem_map.2 ⟨(-y - p.lo).toNat, List.mem_range.2 (by unfold Prt.wd; omega), ?_⟩
      unfold Prt.off
      rw [hn]
      simp
      omega
theorem gaps_iff : ∀ l : List Prt, okPs l → ∀ x, x ∈ gapsL l ↔ lowL l ≤ x ∧ x ≤ highL l := by
  refine snoc_induct ?_ ?_
  · intro _ x
    simp [gapsL, lowL, highL]
    omega
  · intro l p ih hok x
    have hl : okPs l := fun q hq => hok q (by simp [hq])
    have hp : okP p := hok p (by simp)
    have e1 := okP_ends hp
    have e2 := (gapsL_facts l hl).2.2.1
    rw [gapsL_snoc, lowL_snoc, highL_snoc]
    unfold spread
    constructor
    · intro hx
      obtain ⟨g, hg, hx⟩ := List.mem_flatMap.1 hx
      obtain ⟨y, hy, rfl⟩ := List.mem_map.1 hx
      have a := (ih hl g).1 hg
      have b := (opts_iff hp y).1 hy
      omega
    · intro ⟨a, b⟩
      rcases Int.le_total x (highL l + p.low) with h | h
      · refine List.mem_flatMap.2 ⟨x - p.low, (ih hl _).2 (by omega), List.mem_map.2 ⟨p.low, (opts_iff hp _).2 (by omega), by omega⟩⟩
      · refine List.mem_flatMap.2 ⟨highL l, (ih hl _).2 (by omega), List.mem_map.2 ⟨x - highL l, (opts_iff hp _).2 (by omega), by omega⟩⟩
theorem good_cons (lo hi x : Int) (S : List Int) : goodN lo hi (x :: S) = inN lo hi x + goodN lo hi S := by unfold goodN; simp
theorem inN_le (lo hi x : Int) : inN lo hi x ≤ 1 := by unfold inN; split <;> omega
theorem inN_one {lo hi x : Int} : inN lo hi x = 1 ↔ lo ≤ x ∧ x ≤ hi := by unfold inN; split <;> simp_all
theorem good_all {lo hi : Int} : ∀ {S : List Int}, goodN lo hi S = S.length ↔ ∀ x ∈ S, lo ≤ x ∧ x ≤ hi
  | [] => by simp [goodN]
  | x :: S => by
    have ih := good_all (lo := lo) (hi := hi) (S := S)
    have h1 := inN_le lo hi x
    have h2 := goodN_le lo hi S
    rw [good_cons, List.length_cons]
    constructor
    · intro h y hy
      rcases List.mem_cons.1 hy with rfl | hy
      · exact inN_one.1 (by omega)
      · exact ih.1 (by omega) y hy
    · intro h
      have a := inN_one.2 (h x (by simp))
      have b := ih.2 fun y hy => h y (by simp [hy])
      omega
theorem good_pos {lo hi : Int} : ∀ {S : List Int}, 0 < goodN lo hi S ↔ ∃ x ∈ S, lo ≤ x ∧ x ≤ hi
  | [] => by simp [goodN]
  | x :: S => by
    have ih := good_pos (lo := lo) (hi := hi) (S := S)
    rw [good_cons]
    constructor
    · intro h
      rcases Nat.eq_zero_or_pos (goodN lo hi S) with z | z
      · have := inN_le lo hi x
        exact ⟨x, by simp, inN_one.1 (by omega)⟩
      · obtain ⟨y, hy, h⟩ := ih.1 z
        exact ⟨y, by simp [hy], h⟩
    · rintro ⟨y, hy, h⟩
      rcases List.mem_cons.1 hy with rfl | hy
      · have := inN_one.2 h
        omega
      · have := ih.2 ⟨y, hy, h⟩
        omega
theorem worst_all {l : List Prt} (h : okPs l) (lo hi : Int) : goodN lo hi (gapsL l) = (gapsL l).length ↔ lo ≤ lowL l ∧ highL l ≤ hi := by
  have e := (gapsL_facts l h).2.2.1
  rw [good_all]
  constructor
  · intro a
    exact ⟨(a _ ((gaps_iff l h _).2 ⟨Int.le_refl _, e⟩)).1, (a _ ((gaps_iff l h _).2 ⟨e, Int.le_refl _⟩)).2⟩
  · intro ⟨a, b⟩ x hx
    have := (gaps_iff l h x).1 hx
    omega
theorem worst_any {l : List Prt} (h : okPs l) {lo hi : Int} (hlh : lo ≤ hi) : 0 < goodN lo hi (gapsL l) ↔ lowL l ≤ hi ∧ lo ≤ highL l := by
  have e := (gapsL_facts l h).2.2.1
  rw [good_pos]
  constructor
  · rintro ⟨x, hx, a⟩
    have := (gaps_iff l h x).1 hx
    omega
  · intro ⟨a, b⟩
    rcases Int.le_total lo (lowL l) with c | c
    · exact ⟨lowL l, (gaps_iff l h _).2 (by omega), by omega⟩
    · exact ⟨lo, (gaps_iff l h _).2 (by omega), by omega⟩
theorem frac_one {q a : Nat} (ha : 0 < a) : (q / q.gcd a = 1 ∧ a / q.gcd a = 1) ↔ q = a := by
  constructor
  · intro ⟨h1, h2⟩
    have d1 := Nat.div_mul_cancel (Nat.gcd_dvd_left q a)
    have d2 := Nat.div_mul_cancel (Nat.gcd_dvd_right q a)
    rw [h1] at d1
    rw [h2] at d2
    omega
  · rintro rfl
    rw [Nat.gcd_self]
    exact ⟨Nat.div_self ha, Nat.div_self ha⟩
end Go.Proofs.Ytpklcjbdmikbdaa
namespace Go.Proofs.Ytpklcjbdmikbdaa
open Go.RowKit

/-- The remainder from 0 on. -/
def foldI (v n : Int) : Int := Int.tmod (Int.tmod v n + n) n
theorem foldI_bd (v : Int) {n : Int} (h : 0 < n) : 0 ≤ foldI v n ∧ foldI v n < n := by
  unfold foldI
  have a1 := Int.lt_tmod_of_pos v h
  have a2 := Int.tmod_nonneg n (show 0 ≤ Int.tmod v n + n by omega)
  have a3 := Int.tmod_lt_of_pos (Int.tmod v n + n) h
  omega
set_option maxHeartbeats 4000000 in
theorem fold_any (v n : Int) (w : World) (h0 : 0 < n) (h1 : n ≤ 10000) : Calls Try.prog 46 #[.int .i64 v, .int .i64 n] w fun e w' => e = .returned (.int .i64 (foldI v n)) ∧ w = w' := by
  obtain ⟨r1, e1⟩ : ∃ r, Int.tmod v n = r := ⟨_, rfl⟩
  have b1 : -n < r1 ∧ r1 < n := by
    have a1 := Int.tmod_lt_of_pos v h0
    have a2 := Int.lt_tmod_of_pos v h0
    omega
  obtain ⟨r2, e2⟩ : ∃ r, Int.tmod (r1 + n) n = r := ⟨_, rfl⟩
  have b2 : 0 ≤ r2 ∧ r2 < n := by
    have a1 := Int.tmod_lt_of_pos (r1 + n) h0
    have a2 := Int.tmod_nonneg n (show 0 ≤ r1 + n by omega)
    omega
  have HF : Hid (foldI v n = r2) := by show _ = _; unfold foldI; rw [e1, e2]
  rw [HF.out]
  have hn0 : n ≠ 0 := by omega
  have u1 := b1.1
  have u2 := b1.2
  have u3 := b2.1
  have u4 := b2.2
  clear b1 b2 HF
  go_enter Try.func46, Try.ntmps46
  go_wp2_with fail
  go_ret
  exact ⟨rfl, rfl⟩
/-- A part that fits. -/
def stkP (p : Prt) : Prt := ⟨foldI p.lo 2001 - 1000, foldI p.lo 2001 - 1000 + foldI p.hi 8, p.neg⟩
/-- The stack that is made. -/
def stkL (l : List Prt) : List Prt := if (l.take 5).map stkP = [] then [⟨0, 0, false⟩] else (l.take 5).map stkP
theorem stkP_ok (p : Prt) : -1000 ≤ (stkP p).lo ∧ (stkP p).lo ≤ 1000 ∧ (stkP p).lo ≤ (stkP p).hi ∧ (stkP p).hi ≤ (stkP p).lo + 7 := by
  have a := foldI_bd p.lo (show (0 : Int) < 2001 by omega)
  have b := foldI_bd p.hi (show (0 : Int) < 8 by omega)
  simp only [stkP]
  omega
theorem stkL_all {l : List Prt} {q : Prt} (h : q ∈ stkL l) : -1000 ≤ q.lo ∧ q.lo ≤ 1000 ∧ q.lo ≤ q.hi ∧ q.hi ≤ q.lo + 7 := by
  unfold stkL at h
  split at h
  · simp at h
    subst h
    simp
  · obtain ⟨p, _, rfl⟩ := List.mem_map.1 h
    exact stkP_ok p
theorem stkL_len (l : List Prt) : 1 ≤ (stkL l).length ∧ (stkL l).length ≤ 5 := by
  unfold stkL
  split
  · simp
  · rename_i h
    have h1 : ((l.take 5).map stkP).length ≤ 5 := by rw [List.length_map, List.length_take]; omega
    have h2 : ((l.take 5).map stkP).length ≠ 0 := fun e => h (List.eq_nil_of_length_eq_zero e)
    omega
theorem stkL_right (l : List Prt) : rightB (stkL l) = true := by
  have := stkL_len l
  refine rightB_iff.2 ⟨fun q hq => ?_, by omega, by omega⟩
  have := stkL_all hq
  unfold okP
  omega
theorem small_len : ∀ {L : List Prt}, (∀ q ∈ L, -1000 ≤ q.lo ∧ q.lo ≤ 1000 ∧ q.lo ≤ q.hi ∧ q.hi ≤ q.lo + 7) → (gapsL L).length ≤ 8 ^ L.length ∧ -(1007 * L.length : Int) ≤ lowL L ∧ highL L ≤ 1007 * L.length := by
  intro L
  induction L using snoc_induct with
  | h0 => intro _; simp [gapsL, lowL, highL]
  | h1 L p ih =>
    intro h
    obtain ⟨h1, h2, h3⟩ := ih fun q hq => h q (by simp [hq])
    have hp := h p (by simp)
    have hw : p.wd ≤ 8 := by unfold Prt.wd; omega
    rw [gapsL_snoc, spread_len, lowL_snoc, highL_snoc, List.length_append, List.length_singleton]
    refine ⟨?_, ?_, ?_⟩
    · rw [Nat.pow_succ]
      exact Nat.mul_le_mul h1 hw
    · have : -1007 ≤ p.low := by unfold Prt.low; split <;> omega
      push_cast
      omega
    · have : p.high ≤ 1007 := by unfold Prt.high; split <;> omega
      push_cast
      omega
theorem stkL_facts (l : List Prt) : (gapsL (stkL l)).length ≤ 32768 ∧ 0 < (gapsL (stkL l)).length ∧ -5035 ≤ lowL (stkL l) ∧ lowL (stkL l) ≤ highL (stkL l) ∧ highL (stkL l) ≤ 5035 := by
  have h := stkL_len l
  obtain ⟨h1, h2, h3⟩ := small_len (L := stkL l) fun q hq => stkL_all hq
  obtain ⟨hok, _, h8⟩ := rightB_iff.1 (stkL_right l)
  obtain ⟨_, _, f3, _, _, f6⟩ := gapsL_facts _ hok
  have h4 : 8 ^ (stkL l).length ≤ 8 ^ 5 := Nat.pow_le_pow_right (by omega) h.2
  refine ⟨by omega, f6.2, by omega, f3, by omega⟩
theorem pcells_app (a b : List Prt) : pcells (a ++ b) = pcells a ++ pcells b := by
  induction a with
  | nil => rfl
  | cons p a ih => simp only [List.cons_append, pcells, ih]
end Go.Proofs.Ytpklcjbdmikbdaa
namespace Go.Proofs.Ytpklcjbdmikbdaa
open Go.RowKit

theorem sapp_part {ops : Array Oper} {o : Oper} {a : Act} {w : World} {K : Act → World → Prop} {Q : Exit → Act → World → Prop} {E : Prop} (hgd : o.guard = none) (s x : Operand)
    (ho : o.op = .call { callee := .builtin .append, args := #[s, x], argTypes := #[22, 22] }) (base n : Nat) (v : Value) (xs : List Prt) (hs : a.eval s = v) (hown : w.ownsRow base 53 3 v n (pcells xs))
    (g d : Nat) (p : Prt) (hx : a.eval x = .slice (some ⟨g, 0, none⟩) 1 d) (hr : Blk w g 53 #[.int .i64 p.lo, .int .i64 p.hi, .bool p.neg]) (hn : n ≤ 1000) (hbase : base ≤ w.heap.size)
    (h : ∀ v' w', w'.ownsRow base 53 3 v' (n + 1) (pcells (xs ++ [p])) → w.grownBy w' v.ownBlock → K (a.put o.dst v') w') : if Region.wanted o (yielded ops a.tmps) = true then Oper.wp Try.prog o a w K Q else E := by
  obtain ⟨i0, hi, hz0, hz1, hz2⟩ := info_parts info53
  refine step_append_lies w hgd s x 22 ho base 53 i0 _ 3 24 Try.underlying22 hi hz0 hz1 hz2 rfl (by decide) v n _ hs hown ⟨g, 0, none⟩ 1 d (pcells [p]) hx rfl ?_ (pcells_one _) (by omega) (by unfold maxLen; omega) (by omega) hbase _ rfl ?_
  · intro j u hj
    have := hr.cell j
    match j, hj with
    | 0, hj => simp [pcells] at hj; subst hj; exact this
    | 1, hj => simp [pcells] at hj; subst hj; exact this
    | 2, hj => simp [pcells] at hj; subst hj; exact this
  · intro g' cap w' hown' hgr _ _
    exact h _ _ (by rw [pcells_app]; exact hown') hgr
set_option maxRecDepth 100000 in
set_option maxHeartbeats 16000000 in
theorem stack_any (A : Option Addr) (n c : Nat) (l : List Prt) (w : World) (rA : PartsA w A n l) :
    Calls Try.prog 17 #[.slice A n c] w fun e w' => ∃ A' c', e = .returned (.slice A' (stkL l).length c') ∧ PartsH w' A' (stkL l).length (stkL l) ∧ Below w.heap.size w w' := by
  have HLN := Lib.hid rA.1
  have HM : Hid (World.ownsRow (w.alloc (.cells #[] 53)) w.heap.size 53 3 (.slice (some ⟨w.heap.size, 0, none⟩) 0 0) 0 (pcells [])) := World.ownsRow_made (base := w.heap.size) (e := 53) (size := 3) w #[] 0 (by simp) (by unfold maxLen; omega) (by simp)
  have hb1 : Below w.heap.size w (w.alloc (.cells #[] 53)) := (Below.refl _ _).alloc (Nat.le_refl _) _
  have HR := Lib.hid rA
  clear rA
  go_enter Try.func17, Try.ntmps17
  go_upto_region 2 with fail
  revert HM hb1
  generalize w.alloc (.cells #[] 53) = w1
  generalize hNe : w.heap.size = N
  intro HM hb1
  have HNe := Lib.hid hNe
  have hsz := hb1.size
  rw [hNe] at hsz
  clear hNe
  go_wp2_with fail
  go_loopw [3, 4] (fun v i wr => ∃ k : Nat, k ≤ n ∧ k ≤ 5 ∧ i = .int .i64 (k : Int) ∧ wr.ownsRow N 53 3 v k (pcells ((l.take k).map stkP)) ∧ Below N w wr) (fun _ i _ => 5 - (intOf i).toNat)
  case atStart => exact ⟨0, Nat.zero_le _, by omega, rfl, HM.out, hb1⟩
  case round =>
    clear HM
    obtain ⟨k, hk, hk5, rfl, hown, hbl⟩ := hrel
    obtain ⟨wq, hwq⟩ : ∃ x, x = wr := ⟨_, rfl⟩
    subst hwq
    have hszq := hbl.size
    rw [HNe.out] at hszq
    obtain ⟨A3, c3, rfl⟩ := own_slice hown
    by_cases hlt : k < n ∧ k < 5
    · obtain ⟨hkn, hk5'⟩ := hlt
      have hd1 : decide ((k : Int) < (n : Int)) = true := decide_eq_true (by omega)
      have hd2 : decide ((k : Int) < 5) = true := decide_eq_true (by omega)
      have hd2' : decide (k < 5) = true := decide_eq_true hk5'
      have hkni : (k : Int) < (n : Int) := by omega
      obtain ⟨p, hp⟩ : ∃ p, l[k]? = some p := ⟨_, List.getElem?_eq_getElem (by rw [HLN.out]; exact hkn)⟩
      obtain ⟨a, rfl, HS⟩ : ∃ a : Addr, A = some a ∧ Hid (∀ V, Below N w V → PartAny V (a.add (k * 3)) p ∧ (a.add (k * 3)).block < V.heap.size) := by
        obtain ⟨a, e, ha, hc⟩ := HR.out.2 (by omega)
        exact ⟨a, e, fun V hV => ⟨(hc k p hp).later (by rw [add_block]; exact ha) (by rw [HNe.out]; exact hV), by rw [add_block]; have := hV.size; omega⟩⟩
      obtain ⟨⟨p1, p2, p3⟩, hal⟩ := HS.out wq hbl
      have fb1 := foldI_bd p.lo (show (0 : Int) < 2001 by omega)
      have fb2 := foldI_bd p.hi (show (0 : Int) < 8 by omega)
      have HF1 := Lib.hid fun w => fold_any p.lo 2001 w (by omega) (by omega)
      have HF2 := Lib.hid fun w => fold_any p.hi 8 w (by omega) (by omega)
      have HPE : Hid (stkP p = ⟨foldI p.lo 2001 - 1000, foldI p.lo 2001 - 1000 + foldI p.hi 8, p.neg⟩) := rfl
      have HTK : Hid ((l.take (k + 1)).map stkP = (l.take k).map stkP ++ [stkP p]) := by
        show _ = _
        rw [List.take_add_one, hp]
        simp
      generalize foldI p.lo 2001 = f1 at *
      generalize foldI p.hi 8 = f2 at *
      obtain ⟨x, hx⟩ : ∃ x, f1 - 1000 = x := ⟨_, rfl⟩
      rw [hx] at HPE
      obtain ⟨y, hy⟩ : ∃ y, x + f2 = y := ⟨_, rfl⟩
      rw [hy] at HPE
      obtain ⟨fb3, fb4⟩ := fb1
      obtain ⟨fb5, fb6⟩ := fb2
      have fbx : -1000 ≤ x := by omega
      have fby : x ≤ 1001 := by omega
      have hwy : IntKind.i64.wrap y = y := by rw [IntKind.wrap_i64] <;> omega
      clear hp
      go_wp2_with fail
      refine (HF1.out _).mono ?_
      rintro e w3 ⟨rfl, rfl⟩
      go_upto_region 6 with fail
      refine held_var (S := fun V => PartAny V (a.add (k * 3)) p ∧ (a.add (k * 3)).block < V.heap.size) (by kernel_rfl) (HS.out _ hbl.drew) (fun V0 hV0 hS0 => ?_)
      have hb0 : Below wq.heap.size wq V0 := by rw [hV0]; exact (Below.refl _ _).drew
      clear hV0
      refine wpAnyH_take (i := 0) (v := ?_) rfl (by kernel_rfl) (by kernel_rfl) (by kernel_rfl) (fun _ _ _ h => h) (Or.inl ⟨by rfl, ?hy⟩) (by assumption) ?_
      case hy => (intro w hSw; have r1 := hSw.1.1; have r2 := hSw.1.2.1; have r3 := hSw.1.2.2; have r4 := hSw.2; clear hSw; go_simp; try with_reducible rfl)
      refine wpAnyH_take (i := 1) (v := ?_) rfl (by kernel_rfl) (by kernel_rfl) (by kernel_rfl) (fun _ _ _ h => h) (Or.inl ⟨by rfl, ?hy⟩) (by assumption) ?_
      case hy => (intro w hSw; have r1 := hSw.1.1; have r2 := hSw.1.2.1; have r3 := hSw.1.2.2; have r4 := hSw.2; clear hSw; go_simp; try with_reducible rfl)
      refine wpAnyH_take (i := 2) (v := ?_) rfl (by kernel_rfl) (by kernel_rfl) (by kernel_rfl) (fun _ _ _ h => h) (Or.inl ⟨by rfl, ?hy⟩) (by assumption) ?_
      case hy => (intro w hSw; have r1 := hSw.1.1; have r2 := hSw.1.2.1; have r3 := hSw.1.2.2; have r4 := hSw.2; clear hSw; go_simp; try with_reducible rfl)
      refine wpAnyH_take (i := 3) (v := ?_) rfl (by kernel_rfl) (by kernel_rfl) (by kernel_rfl) (fun _ _ _ h => h) (Or.inl ⟨by rfl, ?hy⟩) (by assumption) ?_
      case hy => (intro w hSw; have r1 := hSw.1.1; have r2 := hSw.1.2.1; have r3 := hSw.1.2.2; have r4 := hSw.2; clear hSw; go_simp; try with_reducible rfl)
      refine wpAnyH_take (i := 4) (v := ?_) rfl (by kernel_rfl) (by kernel_rfl) (by kernel_rfl) (fun _ _ _ h => h) (Or.inl ⟨by rfl, ?hy⟩) (by assumption) ?_
      case hy => (intro w hSw; have r1 := hSw.1.1; have r2 := hSw.1.2.1; have r3 := hSw.1.2.2; have r4 := hSw.2; clear hSw; go_simp; try with_reducible rfl)
      simp only [Act.put, List.getElem_toArray, List.getElem_cons_succ, List.getElem_cons_zero, List.setIfInBounds_toArray, List.set_cons_succ, List.set_cons_zero]
      refine wpAnyH_take (i := 5) (v := ?_) rfl (by kernel_rfl) (by kernel_rfl) (by kernel_rfl) (fun _ _ _ h => h) (Or.inl ⟨by rfl, ?hy⟩) (by assumption) ?_
      case hy => (intro w hSw; have r1 := hSw.1.1; have r2 := hSw.1.2.1; have r3 := hSw.1.2.2; have r4 := hSw.2; clear hSw; go_simp; try with_reducible rfl)
      refine wpAnyH_take (i := 6) (v := ?_) rfl (by kernel_rfl) (by kernel_rfl) (by kernel_rfl) (fun _ _ _ h => h) (Or.inl ⟨by rfl, ?hy⟩) (by assumption) ?_
      case hy => (intro w hSw; have r1 := hSw.1.1; have r2 := hSw.1.2.1; have r3 := hSw.1.2.2; have r4 := hSw.2; clear hSw; go_simp; try with_reducible rfl)
      refine wpAnyH_take (i := 7) (v := ?_) rfl (by kernel_rfl) (by kernel_rfl) (by kernel_rfl) (fun _ _ _ h => h) (Or.inl ⟨by rfl, ?hy⟩) (by assumption) ?_
      case hy => (intro w hSw; have r1 := hSw.1.1; have r2 := hSw.1.2.1; have r3 := hSw.1.2.2; have r4 := hSw.2; clear hSw; go_simp; try with_reducible rfl)
      refine wpAnyH_take (i := 8) (v := ?_) rfl (by kernel_rfl) (by kernel_rfl) (by kernel_rfl) (fun _ _ _ h => h) (Or.inl ⟨by rfl, ?hy⟩) (by assumption) ?_
      case hy => (intro w hSw; have r1 := hSw.1.1; have r2 := hSw.1.2.1; have r3 := hSw.1.2.2; have r4 := hSw.2; clear hSw; go_simp; try with_reducible rfl)
      simp only [Act.put, List.getElem_toArray, List.getElem_cons_succ, List.getElem_cons_zero, List.setIfInBounds_toArray, List.set_cons_succ, List.set_cons_zero]
      refine wpAnyH_take (i := 12) (v := ?_) rfl (by kernel_rfl) (by kernel_rfl) (by kernel_rfl) (fun _ _ _ h => h) (Or.inl ⟨by rfl, ?hy⟩) (by assumption) ?_
      case hy => (intro w hSw; have r1 := hSw.1.1; have r2 := hSw.1.2.1; have r3 := hSw.1.2.2; have r4 := hSw.2; clear hSw; go_simp; try with_reducible rfl)
      refine wpAnyH_take (i := 13) (v := ?_) rfl (by kernel_rfl) (by kernel_rfl) (by kernel_rfl) (fun _ _ _ h => h) (Or.inl ⟨by rfl, ?hy⟩) (by assumption) ?_
      case hy => (intro w hSw; have r1 := hSw.1.1; have r2 := hSw.1.2.1; have r3 := hSw.1.2.2; have r4 := hSw.2; clear hSw; go_simp; try with_reducible rfl)
      refine wpAnyH_take (i := 14) (v := ?_) rfl (by kernel_rfl) (by kernel_rfl) (by kernel_rfl) (fun _ _ _ h => h) (Or.inl ⟨by rfl, ?hy⟩) (by assumption) ?_
      case hy => (intro w hSw; have r1 := hSw.1.1; have r2 := hSw.1.2.1; have r3 := hSw.1.2.2; have r4 := hSw.2; clear hSw; go_simp; try with_reducible rfl)
      refine wpAnyH_take (i := 15) (v := ?_) rfl (by kernel_rfl) (by kernel_rfl) (by kernel_rfl) (fun _ _ _ h => h) (Or.inl ⟨by rfl, ?hy⟩) (by assumption) ?_
      case hy => (intro w hSw; have r1 := hSw.1.1; have r2 := hSw.1.2.1; have r3 := hSw.1.2.2; have r4 := hSw.2; clear hSw; go_simp; try with_reducible rfl)
      refine wpAnyH_take (i := 16) (v := ?_) rfl (by kernel_rfl) (by kernel_rfl) (by kernel_rfl) (fun _ _ _ h => h) (Or.inl ⟨by rfl, ?hy⟩) (by assumption) ?_
      case hy => (intro w hSw; have r1 := hSw.1.1; have r2 := hSw.1.2.1; have r3 := hSw.1.2.2; have r4 := hSw.2; clear hSw; go_simp; try with_reducible rfl)
      simp only [Act.put, List.getElem_toArray, List.getElem_cons_succ, List.getElem_cons_zero, List.setIfInBounds_toArray, List.set_cons_succ, List.set_cons_zero]
      refine wpAnyH_ready (rs := [9]) (by kernel_rfl) (by simp) (AllReadyH.cons rfl (fun K hK => ?_) AllReadyH.nil)
      go_simp
      refine (HF2.out _).mono ?_
      rintro e V1 ⟨rfl, rfl⟩
      refine hK.out _ _ (HS.out _ (hbl.trans (hb0.mono hszq))) (fun _ => ?_)
      clear hK K
      refine wpAnyH_take (i := 10) (v := ?_) rfl (by kernel_rfl) (by kernel_rfl) (by kernel_rfl) (fun _ _ _ h => h) (Or.inl ⟨by rfl, ?hy⟩) (by assumption) ?_
      case hy => (intro w hSw; have r1 := hSw.1.1; have r2 := hSw.1.2.1; have r3 := hSw.1.2.2; have r4 := hSw.2; clear hSw; go_simp; try with_reducible rfl)
      refine wpAnyH_take (i := 11) (v := ?_) rfl (by kernel_rfl) (by kernel_rfl) (by kernel_rfl) (fun _ _ _ h => h) (Or.inl ⟨by rfl, ?hy⟩) (by assumption) ?_
      case hy => (intro w hSw; have r1 := hSw.1.1; have r2 := hSw.1.2.1; have r3 := hSw.1.2.2; have r4 := hSw.2; clear hSw; go_simp; try with_reducible rfl)
      refine wpAnyH_take (i := 17) (v := ?_) rfl (by kernel_rfl) (by kernel_rfl) (by kernel_rfl) (fun _ _ _ h => h) (Or.inl ⟨by rfl, ?hy⟩) (by assumption) ?_
      case hy => (intro w hSw; have r1 := hSw.1.1; have r2 := hSw.1.2.1; have r3 := hSw.1.2.2; have r4 := hSw.2; clear hSw; go_simp; try with_reducible rfl)
      simp only [Act.put, List.getElem_toArray, List.getElem_cons_succ, List.getElem_cons_zero, List.setIfInBounds_toArray, List.set_cons_succ, List.set_cons_zero]
      refine wpAnyH_ready (rs := [18]) (by kernel_rfl) (by simp) (AllReadyH.cons rfl (fun K hK => ?_) AllReadyH.nil)
      go_simp
      have hba : Below V0.heap.size V0 (V0.alloc (.cells #[.int .i64 x, .int .i64 y, .bool p.neg] 53)) := (Below.refl _ _).alloc (Nat.le_refl _) _
      have hb2 := hb0.trans (hba.mono hb0.size)
      have kP := Blk.new V0 53 #[.int .i64 x, .int .i64 y, .bool p.neg]
      refine hK.out _ _ (HS.out _ (hbl.trans (hb2.mono hszq))) (fun _ => ?_)
      clear hK K
      refine wpAnyH_ready (rs := [19]) (by kernel_rfl) (by simp) (AllReadyH.cons rfl (fun K hK => ?_) AllReadyH.nil)
      refine sapp_part rfl (.tmp 25) (.tmp 43) rfl N k (.slice A3 k c3) ((l.take k).map stkP) rfl (own_later (own_later hown hb0) hba) V0.heap.size 1 (stkP p) rfl (by rw [HPE.out]; exact kP) (by omega) (by have := hb2.size; omega) ?_
      intro v5 V5 hown5 hgr5
      rw [← HTK.out] at hown5
      have hb3 : Below N wq V5 := (hb2.mono hszq).grown hgr5 (by have := hb2.size; omega) (fun q hq => (World.ownsRow.lt (own_later (own_later hown hb0) hba) q hq).1)
      have hb4 := hbl.trans hb3
      refine hK.out _ _ (HS.out _ hb4) (fun _ => ?_)
      clear hK K hwy
      refine wpAnyH_ready (rs := [20]) (by kernel_rfl) (by simp) (AllReadyH.cons rfl (fun K hK => ?_) AllReadyH.nil)
      go_simp
      refine hK.out _ _ (HS.out _ hb4) (fun _ => ?_)
      clear hK K
      refine wpAnyH_done (by kernel_rfl) ?_ _
      go_wp2_with fail
      go_roundw
      case rel => exact ⟨k + 1, by omega, by omega, by go_num, hown5, hb4⟩
      case measure => simp [intOf]; omega
    · have hend : Hid ((l.take k).map stkP = (l.take 5).map stkP) := by
        show _ = _
        rcases (show k = n ∨ k = 5 by omega) with e | e
        · have h1 := HLN.out
          rw [List.take_of_length_le (by omega), List.take_of_length_le (by omega)]
        · rw [e]
      have hlk : ((l.take k).map stkP).length = k := by rw [List.length_map, List.length_take]; have := HLN.out; omega
      have HLK := Lib.hid hlk
      by_cases hk0 : k = 0
      · obtain rfl : n = 0 := by omega
        subst hk0
        have HE : Hid (stkL l = [⟨0, 0, false⟩]) := by
          show _ = _
          unfold stkL
          rw [← hend.out, if_pos (by simp)]
        have hba : Below wq.heap.size wq (wq.alloc (.cells #[.int .i64 0, .int .i64 0, .bool false] 53)) := (Below.refl _ _).alloc (Nat.le_refl _) _
        have kP := Blk.new wq 53 #[.int .i64 0, .int .i64 0, .bool false]
        have hb2 := hbl.trans (hba.mono hszq)
        have HO : Hid ((wq.alloc (.cells #[.int .i64 0, .int .i64 0, .bool false] 53)).ownsRow N 53 3 (.slice A3 0 c3) 0 (pcells [])) := own_later hown hba
        have HPA : Hid (PartsA (wq.alloc (.cells #[.int .i64 0, .int .i64 0, .bool false] 53)) (some ⟨wq.heap.size, 0, none⟩) 1 [⟨0, 0, false⟩]) := ⟨rfl, fun _ => ⟨_, rfl, kP.lt, fun j q hj => by
          match j, hj with
          | 0, hj =>
            simp at hj
            subst hj
            exact ⟨kP.cell 0, kP.cell 1, kP.cell 2⟩⟩⟩
        have HB2 := Lib.hid hb2
        have HSZ : Hid (N ≤ (wq.alloc (.cells #[.int .i64 0, .int .i64 0, .bool false] 53)).heap.size) := by show _ ≤ _; simp; omega
        clear hown hend hlk HLK hba kP hb2
        go_wp2_with (at_builtin; refine app_parts _ rfl (.tmp 48) (.tmp 50) rfl N (.slice A3 0 c3) 0 [] rfl HO.out (some ⟨wq.heap.size, 0, none⟩) 1 1 [⟨0, 0, false⟩] rfl HPA.out (by omega) HSZ.out ?_)
        all_goals
          intro v5 w5 hown5 hgr5
          obtain ⟨A5, c5, rfl⟩ := own_slice hown5
          have HP5 := Lib.hid (own_parts (l := [⟨0, 0, false⟩]) hown5 rfl)
          have HB5 : Hid (Below N w w5) := HB2.out.grown hgr5 HSZ.out (fun q hq => (World.ownsRow.lt HO.out q hq).1)
          clear hown5 hgr5
          go_wp2_with fail
          go_ret
          exact ⟨A5, c5, by rw [HE.out]; rfl, by rw [HE.out]; exact HP5.out, by rw [HNe.out]; exact HB5.out⟩
      · have HE : Hid (stkL l = (l.take k).map stkP) := by
          show _ = _
          unfold stkL
          rw [← hend.out, if_neg (fun e => by rw [e] at hlk; simp at hlk; omega)]
        have HP5 := Lib.hid (own_parts hown HLK.out)
        have hk1 : 0 < k := by omega
        have hz : ((k : Int) == 0) = false := by simp; omega
        have hz' : ¬ k = 0 := hk0
        have HF : Hid (∃ A' c', (Ending.returned (.slice A3 k c3) = .returned (.slice A' (stkL l).length c')) ∧ PartsH wq A' (stkL l).length (stkL l) ∧ Below w.heap.size w wq) := by
          refine ⟨A3, c3, ?_⟩
          rw [HE.out, HLK.out]
          exact ⟨rfl, HP5.out, by rw [HNe.out]; exact hbl⟩
        clear hown hend hlk HLK HP5
        by_cases hkn : k < n
        · obtain rfl : k = 5 := by omega
          have hd1 : decide ((5 : Int) < (n : Int)) = true := decide_eq_true (by omega)
          have hd1' : decide (5 < n) = true := decide_eq_true hkn
          clear hz hz' hk0
          go_wp2_with fail
          go_ret
          exact HF.out
        · have hd1 : decide ((k : Int) < (n : Int)) = false := decide_eq_false (by omega)
          have hd1' : decide (k < n) = false := decide_eq_false hkn
          go_wp2_with fail
          go_ret
          exact HF.out
end Go.Proofs.Ytpklcjbdmikbdaa
namespace Go.Proofs.Ytpklcjbdmikbdaa.topYields
open Go.RowKit

theorem and_15 (n : Int) : bits .and .i64 n 15 = n % 16 := by
  have h127 : (BitVec.ofInt 64 15).toNat = 2 ^ 4 - 1 := by decide
  have key : (BitVec.ofInt 64 n &&& BitVec.ofInt 64 15).toNat = (n % ((2 ^ 64 : Nat) : Int)).toNat % 2 ^ 4 := by
    rw [BitVec.toNat_and, BitVec.toNat_ofInt, h127, Nat.and_two_pow_sub_one_eq_mod]
  show IntKind.i64.wrap ((BitVec.ofInt 64 n &&& BitVec.ofInt 64 15).toNat : Nat) = n % 16
  rw [key, IntKind.wrap_i64]
  omega
/-- Two spans next to each other. -/
theorem good_next (lo a b : Int) (h1 : lo ≤ a) (h2 : a ≤ b) (S : List Int) : goodN lo (a - 1) S + goodN a b S = goodN lo b S := by
  unfold goodN
  rw [← sum_add]
  congr 1
  refine List.map_congr_left fun x _ => ?_
  unfold inN
  by_cases q1 : lo ≤ x <;> by_cases q2 : x ≤ a - 1 <;> by_cases q3 : a ≤ x <;> by_cases q4 : x ≤ b
  all_goals first
    | (exfalso; omega)
    | (simp [q1, q2, q3, q4])
theorem good_none (lo : Int) (S : List Int) : goodN lo (lo - 1) S = 0 := by
  have : ∀ x ∈ S, inN lo (lo - 1) x = 0 := fun x _ => by unfold inN; split <;> omega
  unfold goodN
  rw [List.map_congr_left this, sum_const]
  simp
theorem low_ok {n d : Nat} (hd : 0 < d) (h1 : n ≤ d) (h2 : d ≤ 32768) : FracOk (lowN n d) (lowD n d) ∧ lowN n d ≤ 32768 ∧ lowD n d ≤ 32768 := by
  have a := lowN_le n d
  have b := lowD_le n d
  exact ⟨⟨lowD_pos hd, by omega, by omega, low_gcd hd⟩, by omega, by omega⟩
set_option maxRecDepth 100000 in
set_option maxHeartbeats 16000000 in
theorem walk (A : Option Addr) (n c : Nat) (P : Option Addr) (q e0 : Nat) (l : List Prt) (o : List Int) (w : World) (hsA : PartsA w A n l) (hcA : n ≤ c) (hnA : A = none → c = 0) (hsP : RowI w P q o) (hcP : q ≤ e0) (hnP : P = none → e0 = 0) :
    Calls Try.prog 3 #[.slice A n c, .slice P q e0] w fun e w' => e = .returned (.bool true) ∧ Below w.heap.size w w' := by
  have HST := Lib.hid (stack_any A n c l w hsA)
  have HP := Lib.hid hsP
  clear hsA hcA hnA hsP hcP hnP
  have hr := stkL_right l
  obtain ⟨f1, f2, f3, f4, f5⟩ := stkL_facts l
  obtain ⟨hok, hl1, hl8⟩ := rightB_iff.1 hr
  have HALL : Hid (goodN (lowL (stkL l)) (highL (stkL l)) (gapsL (stkL l)) = (gapsL (stkL l)).length) := (worst_all hok _ _).2 ⟨Int.le_refl _, Int.le_refl _⟩
  have HY : Hid (∀ (w' : World) (A' : Option Addr) (c' : Nat) (lo hi : Int), PartsH w' A' (stkL l).length (stkL l) → spanB lo hi = true → _) := fun w' A' c' lo hi h hs => yield_yes A' (stkL l).length c' (stkL l) lo hi w' h hr hs
  have HSK : Hid (∀ (w' : World) (A' : Option Addr) (c' : Nat), PartsH w' A' (stkL l).length (stkL l) → _) := fun w' A' c' h => stack_yes A' (stkL l).length c' (stkL l) w' h hr
  generalize gapsL (stkL l) = G at *
  obtain ⟨T, hT⟩ : ∃ T, G.length = T := ⟨_, rfl⟩
  have HG : Hid (∀ lo hi, goodN lo hi G ≤ T) := fun lo hi => by rw [← hT]; exact goodN_le lo hi G
  rw [hT] at HALL HY f1 f2
  clear hT hok hr
  generalize lowL (stkL l) = Lo at *
  generalize highL (stkL l) = Hi at *
  have HONE : Hid (∀ w', Calls Try.prog 19 #[.agg #[.int .i64 1, .int .i64 3], .agg #[.int .i64 2, .int .i64 3]] w' fun e w'' => e = .returned (.tuple #[.agg #[.int .i64 1, .int .i64 1], .int .i64 0]) ∧ Below w'.heap.size w' w'') := fun w' => gearAdd_any 1 3 2 3 w' ⟨by omega, by omega, by omega, by decide⟩ ⟨by omega, by omega, by omega, by decide⟩ (by omega) (by omega) (by omega) (by omega)
  go_enter Try.func3, Try.ntmps3
  go_wp2_with fail
  refine HST.out.mono ?_
  rintro e w2 ⟨A2, c2, rfl, rL, hb2⟩
  have HRL := Lib.hid rL
  have HST2 := Lib.hid (HSK.out w2 A2 c2 rL)
  clear HST rL
  generalize (stkL l).length = ln at *
  go_wp2_with fail
  refine HST2.out.mono ?_
  rintro e w3 ⟨rfl, hb3⟩
  have kS := Blk.new w3 26 #[.int .i64 Lo, .int .i64 Hi]
  have hbn : Below w3.heap.size w3 (w3.alloc (.cells #[.int .i64 Lo, .int .i64 Hi] 26)) := (Below.refl _ _).alloc (Nat.le_refl _) _
  have hbf := hb3.trans (hbn.mono hb3.size)
  have hgS := hb3.size
  clear HST2 HSK hb3 hbn
  go_upto_region 3 with fail
  revert kS hbf hgS
  generalize w3.alloc (.cells #[.int .i64 Lo, .int .i64 Hi] 26) = w4
  generalize w3.heap.size = gS
  intro kS hbf hgS
  go_wp2_with fail
  refine (HONE.out _).mono ?_
  rintro e w5 ⟨rfl, hb5⟩
  have kS5 := kS.later hb5
  have hbf5 := hbf.trans (hb5.mono hbf.size)
  have hgO : gS < w5.heap.size := kS5.lt
  have kO := Blk.new w5 31 #[.int .i64 1, .int .i64 1]
  have hbn : Below w5.heap.size w5 (w5.alloc (.cells #[.int .i64 1, .int .i64 1] 31)) := (Below.refl _ _).alloc (Nat.le_refl _) _
  have kS6 := kS5.later hbn
  have hbf6 := hbf5.trans (hbn.mono hbf5.size)
  clear HONE hb5 hbn kS kS5 hbf hbf5
  go_upto_region 4 with fail
  revert hgO kO kS6 hbf6
  generalize w5.alloc (.cells #[.int .i64 1, .int .i64 1] 31) = w6
  generalize w5.heap.size = gO
  intro hgO kO kS hbf
  have cS := kS.cell
  have lS := kS.lt
  have cO := kO.cell
  have lO := kO.lt
  go_upto_region 6 with fail
  go_region
  have kM := (Blk.new w6 31 #[.int .i64 0, .int .i64 1]).drew
  have hbn : Below w6.heap.size w6 (w6.alloc (.cells #[.int .i64 0, .int .i64 1] 31)).drew := ((Below.refl _ _).alloc (Nat.le_refl _) _).drew
  have kS7 := kS.later hbn
  have kO7 := kO.later hbn
  have hbf7 := hbf.trans (hbn.mono hbf.size)
  have hgM : gO < w6.heap.size := kO.lt
  clear cS lS cO lO kS kO hbf hbn
  go_upto_region 7 with fail
  revert kM kS7 kO7 hbf7 hgM
  generalize (w6.alloc (.cells #[.int .i64 0, .int .i64 1] 31)).drew = w7
  generalize w6.heap.size = gM
  intro kM kS kO hbf hgM
  have hZ := low_zero f2
  go_wp2_with fail
  go_loopw [11, 12] (fun at_ i wr => ∃ (k : Nat) (a : Int) (C : Nat), i = .int .i64 (k : Int) ∧ at_ = .int .i64 a ∧ Lo ≤ a ∧ a ≤ Hi + 1 ∧ k ≤ 21 ∧ (q < k ∨ k = 21 → a = Hi + 1) ∧ Hid (C = goodN Lo (a - 1) G) ∧ Blk wr gS 26 #[.int .i64 Lo, .int .i64 Hi] ∧ Blk wr gO 31 #[.int .i64 1, .int .i64 1] ∧ Blk wr gM 31 #[.int .i64 (lowN C T : Int), .int .i64 (lowD C T : Int)] ∧ Below w2.heap.size w2 wr) (fun at_ _ _ => (Hi + 1 - intOf at_).toNat)
  case atStart => exact ⟨0, Lo, 0, rfl, rfl, Int.le_refl _, by omega, by omega, fun h => by omega, (good_none Lo G).symm, kS, kO, by rw [hZ.1, hZ.2]; exact kM, hbf⟩
  case round =>
    clear kS kO kM hbf hZ
    obtain ⟨k, a, C, rfl, rfl, ha1, ha2, hk, hka, hC, kS, kO, kM, hbf⟩ := hrel
    obtain ⟨wq, hwq⟩ : ∃ x, x = wr := ⟨_, rfl⟩
    subst hwq
    have hCT : C ≤ T := by rw [hC.out]; exact HG.out _ _
    by_cases hgo : k ≤ q ∧ a ≤ Hi
    · obtain ⟨hkq, haH⟩ := hgo
      have hd1 : decide ((k : Int) ≤ (q : Int)) = true := decide_eq_true (by omega)
      have hd1' : decide (k ≤ q) = true := decide_eq_true hkq
      have hd2 : decide (a ≤ Hi) = true := decide_eq_true haH
      have hk20 : k ≤ 20 := by omega
      by_cases hlt : k < q ∧ k < 20
      · obtain ⟨hkq2, hk2⟩ := hlt
        have hd3 : decide ((k : Int) < (q : Int)) = true := decide_eq_true (by omega)
        have hd3' : decide (k < q) = true := decide_eq_true hkq2
        have hd4 : decide ((k : Int) < 20) = true := decide_eq_true (by omega)
        have hd4' : decide (k < 20) = true := decide_eq_true hk2
        have hbW : Below w.heap.size w wq := hb2.trans (hbf.mono hb2.size)
        obtain ⟨pa, rfl, hpa, hcell⟩ := (HP.out.later hbW).at_ hkq2
        generalize o.getD k 0 = x at hcell
        have hx := and_15 x
        obtain ⟨m, hm⟩ : ∃ m, x % 16 = m := ⟨_, rfl⟩
        have hm0 : 0 ≤ m := by omega
        have hm1 : m ≤ 15 := by omega
        rw [hm] at hx
        obtain ⟨t, ht⟩ : ∃ t, min Hi (a + m) = t := ⟨_, rfl⟩
        have ht1 : a ≤ t := by omega
        have ht2 : t ≤ Hi := by omega
        have HT : Hid (20 ≤ k ∨ q ≤ k → t = Hi) := fun h => by omega
        have hkqi : (k : Int) < (q : Int) := by omega
        have hab : (pa.add k).block < wq.heap.size := by rw [add_block]; exact hpa
        have cS := kS.cell
        have lS := kS.lt
        clear hm hbW
        go_wp2_with fail
        go_region
        clear cS lS hpa hab hcell hx ht
        replace kS := kS.drew
        replace kO := kO.drew
        replace kM := kM.drew
        replace hbf := hbf.drew
        revert kS kO kM hbf
        generalize wq.drew = wz
        intro kS kO kM hbf
        have hsp : spanB a t = true := spanB_iff.2 ⟨by omega, by omega, by omega⟩
        obtain ⟨D, hD⟩ : ∃ D, goodN a t G = D := ⟨_, rfl⟩
        have HYt : Hid (Calls Try.prog 20 #[.slice A2 ln c2, .agg #[.int .i64 a, .int .i64 t]] wz fun e w' => e = .returned (.tuple #[.agg #[.int .i64 (lowN D T : Int), .int .i64 (lowD D T : Int)], .int .i64 0]) ∧ Below wz.heap.size wz w') := by
          rw [← hD]
          exact HY.out wz A2 c2 a t (HRL.out.later hbf) hsp
        have hDT : D ≤ T := by rw [← hD]; exact HG.out _ _
        have hCD : Hid (C + D = goodN Lo (t + 1 - 1) G) := by
          show _ = _
          rw [hC.out, ← hD, show t + 1 - 1 = t by omega]
          exact good_next Lo a t ha1 ht1 G
        have hCDT : C + D ≤ T := by rw [hCD.out]; exact HG.out _ _
        have HADD : Hid (∀ w', Calls Try.prog 19 #[.agg #[.int .i64 (lowN C T : Int), .int .i64 (lowD C T : Int)], .agg #[.int .i64 (lowN D T : Int), .int .i64 (lowD D T : Int)]] w' fun e w'' => e = .returned (.tuple #[.agg #[.int .i64 (lowN (C + D) T : Int), .int .i64 (lowD (C + D) T : Int)], .int .i64 0]) ∧ Below w'.heap.size w' w'') := fun w' => by
          have h1 := low_ok f2 hCT f1
          have h2 := low_ok f2 hDT f1
          refine (gearAdd_any _ _ _ _ w' h1.1 h2.1 h1.2.1 h1.2.2 h2.2.1 h2.2.2).mono ?_
          rintro e w'' ⟨rfl, hb⟩
          have e := low_add (a := C) (b := D) f2
          refine ⟨?_, hb⟩
          rw [← e.1, ← e.2]
          rfl
        clear hD hsp hC
        generalize hE : C + D = E at *
        clear hE
        generalize lowN C T = c1 at *
        generalize lowD C T = c3 at *
        generalize lowN D T = d1 at *
        generalize lowD D T = d3 at *
        go_wp2_with fail
        refine HYt.out.mono ?_
        rintro e w8 ⟨rfl, hb8⟩
        have hba : Below w8.heap.size w8 (w8.alloc (.cells #[.int .i64 (d1 : Int), .int .i64 (d3 : Int)] 31)) := (Below.refl _ _).alloc (Nat.le_refl _) _
        have kY := Blk.new w8 31 #[.int .i64 (d1 : Int), .int .i64 (d3 : Int)]
        have hbq := hb8.trans (hba.mono hb8.size)
        replace kS := kS.later hbq
        replace kO := kO.later hbq
        replace hgM2 := kM.lt
        replace kM := kM.later hbq
        replace hbf := hbf.trans (hbq.mono hbf.size)
        have hgY := hb8.size
        clear HYt hb8 hba hbq
        go_upto_region 14 with fail
        revert kY kS kO kM hbf hgY
        generalize w8.alloc (.cells #[.int .i64 (d1 : Int), .int .i64 (d3 : Int)] 31) = w9
        generalize w8.heap.size = gY
        intro kY kS kO kM hbf hgY
        have cM := kM.cell
        have lM := kM.lt
        have cY := kY.cell
        have lY := kY.lt
        go_wp2_with fail
        refine (HADD.out _).mono ?_
        rintro e w10 ⟨rfl, hb10⟩
        obtain ⟨e1, he1⟩ : ∃ x, x = lowN E T := ⟨_, rfl⟩
        obtain ⟨e3, he3⟩ : ∃ x, x = lowD E T := ⟨_, rfl⟩
        rw [← he1, ← he3]
        have HE1 := Lib.hid he1
        have HE3 := Lib.hid he3
        clear he1 he3
        have hbb : Below w10.heap.size w10 (w10.alloc (.cells #[.int .i64 (e1 : Int), .int .i64 (e3 : Int)] 31)) := (Below.refl _ _).alloc (Nat.le_refl _) _
        have kN := Blk.new w10 31 #[.int .i64 (e1 : Int), .int .i64 (e3 : Int)]
        have hbq := hb10.trans (hbb.mono hb10.size)
        replace kS := kS.later hbq
        replace kO := kO.later hbq
        replace kM := kM.later hbq
        replace hbf := hbf.trans (hbq.mono hbf.size)
        have hgN := hb10.size
        clear HADD hb10 hbb hbq cM lM cY lY kY
        go_upto_region 15 with fail
        revert kN kS kO kM hbf hgN
        generalize w10.alloc (.cells #[.int .i64 (e1 : Int), .int .i64 (e3 : Int)] 31) = w11
        generalize w10.heap.size = gN
        intro kN kS kO kM hbf hgN
        go_upto_region 17 with fail
        have kM2 := (kM.set_ 0 (.int .i64 (e1 : Int))).set_ 1 (.int .i64 (e3 : Int))
        have kS2 := (kS.far (p := ⟨gM, 0, none⟩) (show gS ≠ gM by omega) (.int .i64 (e1 : Int))).far (p := ⟨gM, 1, none⟩) (show gS ≠ gM by omega) (.int .i64 (e3 : Int))
        have kO2 := (kO.far (p := ⟨gM, 0, none⟩) (show gO ≠ gM by omega) (.int .i64 (e1 : Int))).far (p := ⟨gM, 1, none⟩) (show gO ≠ gM by omega) (.int .i64 (e3 : Int))
        have hbf2 := (hbf.setCell (p := ⟨gM, 0, none⟩) (show w2.heap.size ≤ gM by omega) (.int .i64 (e1 : Int))).setCell (p := ⟨gM, 1, none⟩) (show w2.heap.size ≤ gM by omega) (.int .i64 (e3 : Int))
        have cN := kN.cell
        have lN := kN.lt
        have cM := kM.cell
        have fM := kM.frozen
        have lM := kM.lt
        have KM2 := Lib.hid kM2
        have KS2 := Lib.hid kS2
        have KO2 := Lib.hid kO2
        have HBF2 := Lib.hid hbf2
        clear kM kS kO kN kM2 kS2 kO2 hbf hbf2
        go_wp2_with fail
        exact ⟨⟨k + 1, t + 1, E, by go_num, rfl, by omega, by omega, by omega, fun h => by have := HT.out (by omega); omega, hCD.out, KS2.out, KO2.out, by rw [← HE1.out, ← HE3.out]; exact KM2.out, HBF2.out⟩, by simp [intOf]; omega⟩
      · have HTQ : Hid (20 ≤ k ∨ q ≤ k) := by show _ ∨ _; omega
        obtain ⟨wz, hwz⟩ : ∃ x, x = wq := ⟨_, rfl⟩
        subst hwz
        have ht1 : a ≤ Hi := by omega
        have ht2 : Hi ≤ Hi := by omega
        have HT : Hid (20 ≤ k ∨ q ≤ k → Hi = Hi) := fun _ => rfl
        have cS := kS.cell
        have lS := kS.lt
        by_cases hkq2 : k < q
        · have hd3 : decide ((k : Int) < (q : Int)) = true := decide_eq_true (by omega)
          have hd3' : decide (k < q) = true := decide_eq_true hkq2
          have hd4 : decide ((k : Int) < 20) = false := decide_eq_false (by omega)
          have hd4' : decide (k < 20) = false := decide_eq_false (by omega)
          clear hlt
          go_upto_region 13 with fail
          clear cS lS
          have hsp : spanB a Hi = true := spanB_iff.2 ⟨by omega, by omega, by omega⟩
          obtain ⟨D, hD⟩ : ∃ D, goodN a Hi G = D := ⟨_, rfl⟩
          have HYt : Hid (Calls Try.prog 20 #[.slice A2 ln c2, .agg #[.int .i64 a, .int .i64 Hi]] wz fun e w' => e = .returned (.tuple #[.agg #[.int .i64 (lowN D T : Int), .int .i64 (lowD D T : Int)], .int .i64 0]) ∧ Below wz.heap.size wz w') := by
            rw [← hD]
            exact HY.out wz A2 c2 a Hi (HRL.out.later hbf) hsp
          have hDT : D ≤ T := by rw [← hD]; exact HG.out _ _
          have hCD : Hid (C + D = goodN Lo (Hi + 1 - 1) G) := by
            show _ = _
            rw [hC.out, ← hD, show Hi + 1 - 1 = Hi by omega]
            exact good_next Lo a Hi ha1 ht1 G
          have hCDT : C + D ≤ T := by rw [hCD.out]; exact HG.out _ _
          have HADD : Hid (∀ w', Calls Try.prog 19 #[.agg #[.int .i64 (lowN C T : Int), .int .i64 (lowD C T : Int)], .agg #[.int .i64 (lowN D T : Int), .int .i64 (lowD D T : Int)]] w' fun e w'' => e = .returned (.tuple #[.agg #[.int .i64 (lowN (C + D) T : Int), .int .i64 (lowD (C + D) T : Int)], .int .i64 0]) ∧ Below w'.heap.size w' w'') := fun w' => by
            have h1 := low_ok f2 hCT f1
            have h2 := low_ok f2 hDT f1
            refine (gearAdd_any _ _ _ _ w' h1.1 h2.1 h1.2.1 h1.2.2 h2.2.1 h2.2.2).mono ?_
            rintro e w'' ⟨rfl, hb⟩
            have e := low_add (a := C) (b := D) f2
            refine ⟨?_, hb⟩
            rw [← e.1, ← e.2]
            rfl
          clear hD hsp hC
          generalize hE : C + D = E at *
          clear hE
          generalize lowN C T = c1 at *
          generalize lowD C T = c3 at *
          generalize lowN D T = d1 at *
          generalize lowD D T = d3 at *
          go_wp2_with fail
          refine HYt.out.mono ?_
          rintro e w8 ⟨rfl, hb8⟩
          have hba : Below w8.heap.size w8 (w8.alloc (.cells #[.int .i64 (d1 : Int), .int .i64 (d3 : Int)] 31)) := (Below.refl _ _).alloc (Nat.le_refl _) _
          have kY := Blk.new w8 31 #[.int .i64 (d1 : Int), .int .i64 (d3 : Int)]
          have hbq := hb8.trans (hba.mono hb8.size)
          replace kS := kS.later hbq
          replace kO := kO.later hbq
          replace hgM2 := kM.lt
          replace kM := kM.later hbq
          replace hbf := hbf.trans (hbq.mono hbf.size)
          have hgY := hb8.size
          clear HYt hb8 hba hbq
          go_upto_region 14 with fail
          revert kY kS kO kM hbf hgY
          generalize w8.alloc (.cells #[.int .i64 (d1 : Int), .int .i64 (d3 : Int)] 31) = w9
          generalize w8.heap.size = gY
          intro kY kS kO kM hbf hgY
          have cM := kM.cell
          have lM := kM.lt
          have cY := kY.cell
          have lY := kY.lt
          go_wp2_with fail
          refine (HADD.out _).mono ?_
          rintro e w10 ⟨rfl, hb10⟩
          obtain ⟨e1, he1⟩ : ∃ x, x = lowN E T := ⟨_, rfl⟩
          obtain ⟨e3, he3⟩ : ∃ x, x = lowD E T := ⟨_, rfl⟩
          rw [← he1, ← he3]
          have HE1 := Lib.hid he1
          have HE3 := Lib.hid he3
          clear he1 he3
          have hbb : Below w10.heap.size w10 (w10.alloc (.cells #[.int .i64 (e1 : Int), .int .i64 (e3 : Int)] 31)) := (Below.refl _ _).alloc (Nat.le_refl _) _
          have kN := Blk.new w10 31 #[.int .i64 (e1 : Int), .int .i64 (e3 : Int)]
          have hbq := hb10.trans (hbb.mono hb10.size)
          replace kS := kS.later hbq
          replace kO := kO.later hbq
          replace kM := kM.later hbq
          replace hbf := hbf.trans (hbq.mono hbf.size)
          have hgN := hb10.size
          clear HADD hb10 hbb hbq cM lM cY lY kY
          go_upto_region 15 with fail
          revert kN kS kO kM hbf hgN
          generalize w10.alloc (.cells #[.int .i64 (e1 : Int), .int .i64 (e3 : Int)] 31) = w11
          generalize w10.heap.size = gN
          intro kN kS kO kM hbf hgN
          go_upto_region 17 with fail
          have kM2 := (kM.set_ 0 (.int .i64 (e1 : Int))).set_ 1 (.int .i64 (e3 : Int))
          have kS2 := (kS.far (p := ⟨gM, 0, none⟩) (show gS ≠ gM by omega) (.int .i64 (e1 : Int))).far (p := ⟨gM, 1, none⟩) (show gS ≠ gM by omega) (.int .i64 (e3 : Int))
          have kO2 := (kO.far (p := ⟨gM, 0, none⟩) (show gO ≠ gM by omega) (.int .i64 (e1 : Int))).far (p := ⟨gM, 1, none⟩) (show gO ≠ gM by omega) (.int .i64 (e3 : Int))
          have hbf2 := (hbf.setCell (p := ⟨gM, 0, none⟩) (show w2.heap.size ≤ gM by omega) (.int .i64 (e1 : Int))).setCell (p := ⟨gM, 1, none⟩) (show w2.heap.size ≤ gM by omega) (.int .i64 (e3 : Int))
          have cN := kN.cell
          have lN := kN.lt
          have cM := kM.cell
          have fM := kM.frozen
          have lM := kM.lt
          have KM2 := Lib.hid kM2
          have KS2 := Lib.hid kS2
          have KO2 := Lib.hid kO2
          have HBF2 := Lib.hid hbf2
          clear kM kS kO kN kM2 kS2 kO2 hbf hbf2
          go_wp2_with fail
          exact ⟨⟨k + 1, Hi + 1, E, by go_num, rfl, by omega, by omega, by omega, fun h => by have := HT.out (by omega); omega, hCD.out, KS2.out, KO2.out, by rw [← HE1.out, ← HE3.out]; exact KM2.out, HBF2.out⟩, by simp [intOf]; omega⟩
        · have hd3 : decide ((k : Int) < (q : Int)) = false := decide_eq_false (by omega)
          have hd3' : decide (k < q) = false := decide_eq_false hkq2
          clear hlt
          go_upto_region 13 with fail
          clear cS lS
          have hsp : spanB a Hi = true := spanB_iff.2 ⟨by omega, by omega, by omega⟩
          obtain ⟨D, hD⟩ : ∃ D, goodN a Hi G = D := ⟨_, rfl⟩
          have HYt : Hid (Calls Try.prog 20 #[.slice A2 ln c2, .agg #[.int .i64 a, .int .i64 Hi]] wz fun e w' => e = .returned (.tuple #[.agg #[.int .i64 (lowN D T : Int), .int .i64 (lowD D T : Int)], .int .i64 0]) ∧ Below wz.heap.size wz w') := by
            rw [← hD]
            exact HY.out wz A2 c2 a Hi (HRL.out.later hbf) hsp
          have hDT : D ≤ T := by rw [← hD]; exact HG.out _ _
          have hCD : Hid (C + D = goodN Lo (Hi + 1 - 1) G) := by
            show _ = _
            rw [hC.out, ← hD, show Hi + 1 - 1 = Hi by omega]
            exact good_next Lo a Hi ha1 ht1 G
          have hCDT : C + D ≤ T := by rw [hCD.out]; exact HG.out _ _
          have HADD : Hid (∀ w', Calls Try.prog 19 #[.agg #[.int .i64 (lowN C T : Int), .int .i64 (lowD C T : Int)], .agg #[.int .i64 (lowN D T : Int), .int .i64 (lowD D T : Int)]] w' fun e w'' => e = .returned (.tuple #[.agg #[.int .i64 (lowN (C + D) T : Int), .int .i64 (lowD (C + D) T : Int)], .int .i64 0]) ∧ Below w'.heap.size w' w'') := fun w' => by
            have h1 := low_ok f2 hCT f1
            have h2 := low_ok f2 hDT f1
            refine (gearAdd_any _ _ _ _ w' h1.1 h2.1 h1.2.1 h1.2.2 h2.2.1 h2.2.2).mono ?_
            rintro e w'' ⟨rfl, hb⟩
            have e := low_add (a := C) (b := D) f2
            refine ⟨?_, hb⟩
            rw [← e.1, ← e.2]
            rfl
          clear hD hsp hC
          generalize hE : C + D = E at *
          clear hE
          generalize lowN C T = c1 at *
          generalize lowD C T = c3 at *
          generalize lowN D T = d1 at *
          generalize lowD D T = d3 at *
          go_wp2_with fail
          refine HYt.out.mono ?_
          rintro e w8 ⟨rfl, hb8⟩
          have hba : Below w8.heap.size w8 (w8.alloc (.cells #[.int .i64 (d1 : Int), .int .i64 (d3 : Int)] 31)) := (Below.refl _ _).alloc (Nat.le_refl _) _
          have kY := Blk.new w8 31 #[.int .i64 (d1 : Int), .int .i64 (d3 : Int)]
          have hbq := hb8.trans (hba.mono hb8.size)
          replace kS := kS.later hbq
          replace kO := kO.later hbq
          replace hgM2 := kM.lt
          replace kM := kM.later hbq
          replace hbf := hbf.trans (hbq.mono hbf.size)
          have hgY := hb8.size
          clear HYt hb8 hba hbq
          go_upto_region 14 with fail
          revert kY kS kO kM hbf hgY
          generalize w8.alloc (.cells #[.int .i64 (d1 : Int), .int .i64 (d3 : Int)] 31) = w9
          generalize w8.heap.size = gY
          intro kY kS kO kM hbf hgY
          have cM := kM.cell
          have lM := kM.lt
          have cY := kY.cell
          have lY := kY.lt
          go_wp2_with fail
          refine (HADD.out _).mono ?_
          rintro e w10 ⟨rfl, hb10⟩
          obtain ⟨e1, he1⟩ : ∃ x, x = lowN E T := ⟨_, rfl⟩
          obtain ⟨e3, he3⟩ : ∃ x, x = lowD E T := ⟨_, rfl⟩
          rw [← he1, ← he3]
          have HE1 := Lib.hid he1
          have HE3 := Lib.hid he3
          clear he1 he3
          have hbb : Below w10.heap.size w10 (w10.alloc (.cells #[.int .i64 (e1 : Int), .int .i64 (e3 : Int)] 31)) := (Below.refl _ _).alloc (Nat.le_refl _) _
          have kN := Blk.new w10 31 #[.int .i64 (e1 : Int), .int .i64 (e3 : Int)]
          have hbq := hb10.trans (hbb.mono hb10.size)
          replace kS := kS.later hbq
          replace kO := kO.later hbq
          replace kM := kM.later hbq
          replace hbf := hbf.trans (hbq.mono hbf.size)
          have hgN := hb10.size
          clear HADD hb10 hbb hbq cM lM cY lY kY
          go_upto_region 15 with fail
          revert kN kS kO kM hbf hgN
          generalize w10.alloc (.cells #[.int .i64 (e1 : Int), .int .i64 (e3 : Int)] 31) = w11
          generalize w10.heap.size = gN
          intro kN kS kO kM hbf hgN
          go_upto_region 17 with fail
          have kM2 := (kM.set_ 0 (.int .i64 (e1 : Int))).set_ 1 (.int .i64 (e3 : Int))
          have kS2 := (kS.far (p := ⟨gM, 0, none⟩) (show gS ≠ gM by omega) (.int .i64 (e1 : Int))).far (p := ⟨gM, 1, none⟩) (show gS ≠ gM by omega) (.int .i64 (e3 : Int))
          have kO2 := (kO.far (p := ⟨gM, 0, none⟩) (show gO ≠ gM by omega) (.int .i64 (e1 : Int))).far (p := ⟨gM, 1, none⟩) (show gO ≠ gM by omega) (.int .i64 (e3 : Int))
          have hbf2 := (hbf.setCell (p := ⟨gM, 0, none⟩) (show w2.heap.size ≤ gM by omega) (.int .i64 (e1 : Int))).setCell (p := ⟨gM, 1, none⟩) (show w2.heap.size ≤ gM by omega) (.int .i64 (e3 : Int))
          have cN := kN.cell
          have lN := kN.lt
          have cM := kM.cell
          have fM := kM.frozen
          have lM := kM.lt
          have KM2 := Lib.hid kM2
          have KS2 := Lib.hid kS2
          have KO2 := Lib.hid kO2
          have HBF2 := Lib.hid hbf2
          clear kM kS kO kN kM2 kS2 kO2 hbf hbf2
          go_wp2_with fail
          exact ⟨⟨k + 1, Hi + 1, E, by go_num, rfl, by omega, by omega, by omega, fun h => by have := HT.out (by omega); omega, hCD.out, KS2.out, KO2.out, by rw [← HE1.out, ← HE3.out]; exact KM2.out, HBF2.out⟩, by simp [intOf]; omega⟩
    · have haH : a = Hi + 1 := by omega
      have HCT : Hid (C = T) := by
        show _ = _
        rw [hC.out, haH, show Hi + 1 - 1 = Hi by omega]
        exact HALL.out
      have h1 := low_all f2
      rw [HCT.out, h1.1, h1.2] at kM
      have hbW : Below w.heap.size w wq := hb2.trans (hbf.mono hb2.size)
      have cS := kS.cell
      have lS := kS.lt
      have cO := kO.cell
      have lO := kO.lt
      have cM := kM.cell
      have lM := kM.lt
      subst haH
      have hd2 : decide (Hi + 1 ≤ Hi) = false := decide_eq_false (by omega)
      clear h1 hC HCT hgo
      by_cases hkq : k ≤ q
      · have hd1 : decide ((k : Int) ≤ (q : Int)) = true := decide_eq_true (by omega)
        have hd1' : decide (k ≤ q) = true := decide_eq_true hkq
        go_wp2_with fail
        go_ret
        exact ⟨rfl, hbW⟩
      · have hd1 : decide ((k : Int) ≤ (q : Int)) = false := decide_eq_false (by omega)
        have hd1' : decide (k ≤ q) = false := decide_eq_false hkq
        go_wp2_with fail
        go_ret
        exact ⟨rfl, hbW⟩
end Go.Proofs.Ytpklcjbdmikbdaa.topYields
namespace Go.Proofs.Ytpklcjbdmikbdaa.topYields
open Go.ChangeShapes Go.WideShapes Go.ChangeAt Go.RowKit


set_option maxHeartbeats 2000000 in
set_option maxHeartbeats 4000000 in
set_option maxRecDepth 100000 in
theorem lifted (os : Os) (started : os.Started) (H : Type) (enc : TypeId × Value → H) :
    ReturnsInHanded {} Try.checked os 3 .any (Rows.topYieldsSpec.pre6 enc Try.prog Try.f3 Rows.topYieldsRow.domain false) (Rows.topYieldsSpec.post enc Try.prog Try.f3 false true false false) := by
  refine returnsInHanded_of_change (C := Try.checked) Try.own started (by kernel_rfl) Try.func3
    (ChangeSpec.witness6 (enc := enc) (C := Try.checked) false ⟨#[], #[.slice none 0 0, .slice none 0 0], []⟩ 8 (by kernel_rfl) (by kernel_rfl) (by kernel_rfl) (by kernel_rfl)) ?_
  intro W base args ds gs before hval0 hW hcnd _
  have hval : ∀ (j : Nat) t v, Try.f3.params[j]? = some t → args[j]? = some v → Value.okWide Try.prog W .any base t v := hval0
  have hW' := hW
  obtain ⟨p, q, hA0, hV, rfl, hfz, hnd⟩ := hW
  have hA : DataW.TrodAll enc Try.prog W 0 (fun _ => true) true Try.f3.params.toList args.toList ds p := hA0
  rw [Try.params3] at hA hval
  obtain ⟨v0, vs0, d0, ds0, p0, q0, hargs, rfl, rfl, h0, r0⟩ := trodAll_cons hA
  obtain ⟨v1, vs1, d1, ds1, p1, q1, rfl, rfl, rfl, h1, r1⟩ := trodAll_cons r0
  obtain ⟨rfl, rfl, rfl⟩ := trodAll_nil r1
  obtain rfl : args = #[v0, v1] := by cases args; simp_all
  obtain ⟨rfl, rfl⟩ := trodVars_none hV
  obtain ⟨A0, n0, c0, l0, rfl, x0, y0, u0⟩ := open_R (hval 0 22 v0 rfl rfl) h0
  obtain ⟨A1, n1, c1, l1, rfl, x1, y1, z1, u1⟩ := open_I (hval 1 23 v1 rfl rfl) h1
  refine (walk A0 n0 c0 A1 n1 c1 l0 l1 W x0 y0 u0 x1 y1 u1).mono fun e W' ⟨he, hb⟩ => ?_
  exact ⟨_, he, law_post rfl (by kernel_rfl) (by kernel_rfl) hW' rfl rfl rfl hb⟩

set_option maxHeartbeats 4000000 in
set_option maxRecDepth 100000 in
theorem facts : joinedFacts Try.prog 3 Try.f3 Rows.topYieldsSpec Rows.topYieldsRow = true := by
  unfold joinedFacts
  repeat' (with_reducible refine and_t ?_ ?_)
  all_goals first
    | with_reducible exact Try.enters
    | (rw [Try.finals]; as_aux_lemma => kernel_rfl)
    | (rw [Try.made]; as_aux_lemma => kernel_rfl)
    | (as_aux_lemma => kernel_rfl)

theorem proved : Rows.TopYieldsSaid :=
  OpenClaim.holds_of_wide 3 Try.f3 rfl rfl rfl rfl rfl rfl rfl ⟨rfl, rfl, rfl, rfl, rfl⟩ rfl rfl rfl rfl rfl (by as_aux_lemma => kernel_rfl) Try.func3 facts
    (of_decide_eq_true (by as_aux_lemma => kernel_rfl)) (by unfold Func.isWrapper; rw [if_neg (of_decide_eq_false (by kernel_rfl))]; exact ⟨rfl, rfl⟩)
    (fun os started H enc _ => lifted os started H enc)
#print axioms proved
end Go.Proofs.Ytpklcjbdmikbdaa.topYields
