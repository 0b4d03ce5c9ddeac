/-
  The seat's texts GcdW MulW in one: the contracts of the functions that the law reaches, and the plain laws that they rest on.
  Conditions: as each theorem states them.
-/
import Derived.Test.YtpklcjbdmikbdaaGreatGW
import Derived.Test.YtpklcjbdmikbdaaGreatGP
import Derived.Deep.RegionHeld
namespace Go.Proofs.YtpklcjbdmikbdaaGreat
set_option maxRecDepth 100000
open Go.RowKit

set_option maxHeartbeats 4000000 in
theorem gsize_any (n : Nat) (w : World) (hn : n < 9223372036854775808) : Calls Tryz.prog 71 #[.int .i64 (n : Int)] w fun e w' => e = .returned (.int .u64 (n : Int)) ∧ w = w' := by
  have h0 : decide ((n : Int) < 0) = false := by simp
  have hn2 : (n : Int) < 9223372036854775808 := by omega
  go_enter Tryz.func71, Tryz.ntmps71
  go_wp2_with fail
  go_ret
  exact ⟨rfl, rfl⟩
set_option maxRecDepth 100000 in
set_option maxHeartbeats 4000000 in
theorem gcd_any (a b : Nat) (w : World) (ha : a < 18446744073709551616) (hb : b < 18446744073709551616) : Calls Tryz.prog 72 #[.int .u64 (a : Int), .int .u64 (b : Int)] w fun e w' => e = .returned (.int .u64 ((a.gcd b : Nat) : Int)) ∧ Below w.heap.size w w' := by
  go_enter Tryz.func72, Tryz.ntmps72
  go_wp2_with fail
  go_loopg [0, 1] b (fun k u v wr => ∃ x : Nat, u = .int .u64 (x : Int) ∧ v = .int .u64 (k : Int) ∧ Hid (x.gcd k = a.gcd b) ∧ x < 18446744073709551616 ∧ k < 18446744073709551616 ∧ Below w.heap.size w wr)
  case atStart => exact ⟨a, rfl, rfl, rfl, ha, hb, Below.refl _ _⟩
  case round =>
    obtain ⟨x, rfl, rfl, hg, hx, hk, hbw⟩ := hrel
    clear ha hb
    rcases Nat.eq_zero_or_pos gk with h0 | h0
    · have hd : decide ((gk : Int) > 0) = false := decide_eq_false (by omega)
      have HF : Hid (x = a.gcd b) := by
        have := hg.out
        rw [h0, Nat.gcd_zero_right] at this
        exact this
      have hn : ¬ 0 < gk := by omega
      clear hg h0 hd
      go_wp2_with fail
      go_ret
      exact ⟨by rw [← HF.out]; rfl, hbw⟩
    · have hd : decide ((gk : Int) > 0) = true := decide_eq_true (by omega)
      have hz : ((gk : Int) == 0) = false := by simp; omega
      obtain ⟨r, hr⟩ : ∃ r, r = x % gk := ⟨_, rfl⟩
      have hrk : r < gk := by rw [hr]; exact Nat.mod_lt _ h0
      have HG : Hid (gk.gcd r = a.gcd b) := by
        show _ = _
        rw [hr, ← hg.out, Nat.gcd_comm x gk, Nat.gcd_rec gk x, Nat.gcd_comm]
      have HR : Hid ((x : Int) % (gk : Int) = (r : Int)) := by show _ = _; rw [hr, Int.natCast_emod]
      clear hr hg hd
      go_wp2_with fail
      go_region
      rw [HR.out]
      go_wp2_with fail
      go_roundg r
      case measure => exact hrk
      case rel => exact ⟨gk, rfl, rfl, HG.out, hk, by omega, hbw.drew⟩
/-- A fraction in memory. -/
def FracAt (w : World) (g q n d : Nat) : Prop := w.cell? ⟨g, q, none⟩ = some (.int .i64 (n : Int)) ∧ w.cell? ⟨g, q + 1, none⟩ = some (.int .i64 (d : Int))
/-- A valid fraction that is not below 0. -/
def FracOk (n d : Nat) : Prop := 0 < d ∧ d ≤ 4611686018427387904 ∧ n ≤ 4611686018427387904 ∧ n.gcd d = 1
set_option maxRecDepth 100000 in
set_option maxHeartbeats 8000000 in
theorem fvalid_any (g m : Nat) (w : World) (hm : m ≤ 100) (hg : g < w.heap.size) (h : ∀ k, k < m → ∃ n d, FracAt w g (k * 2) n d ∧ FracOk n d) : Calls Tryz.prog 49 #[.slice (some ⟨g, 0, none⟩) m m] w fun e w' => e = .returned (.bool true) ∧ Below w.heap.size w w' := by
  have HH := Lib.hid h
  clear h
  go_enter Tryz.func49, Tryz.ntmps49
  go_wp2_with fail
  go_loopw [7] (fun i wr => ∃ k : Nat, k ≤ m ∧ i = .int .i64 (k : Int) ∧ Below w.heap.size w wr) (fun i _ => m - (intOf i).toNat)
  case atStart => exact ⟨0, Nat.zero_le _, rfl, Below.refl _ _⟩
  case round =>
    obtain ⟨k, hk, rfl, hb⟩ := hrel
    by_cases hlt : k < m
    · obtain ⟨n, d, ⟨q1, q2⟩, h1, h2, h3, h4⟩ := HH.out k hlt
      have hkm : (k : Int) < (m : Int) := by omega
      have p1 := (hb.cell (p := ⟨g, k * 2, none⟩) hg).trans q1
      have p2 := (hb.cell (p := ⟨g, k * 2 + 1, none⟩) hg).trans q2
      have hgr : g < wr.heap.size := Nat.lt_of_lt_of_le hg hb.size
      have d1 : decide ((d : Int) < 1) = false := decide_eq_false (by omega)
      have d2 : decide ((d : Int) > 4611686018427387904) = false := decide_eq_false (by omega)
      have d3 : decide ((n : Int) > 4611686018427387904) = false := decide_eq_false (by omega)
      have kP := Blk.new wr 30 #[.int .i64 (n : Int), .int .i64 (d : Int)]
      have hba : Below wr.heap.size wr (wr.alloc (.cells #[.int .i64 (n : Int), .int .i64 (d : Int)] 30)) := (Below.refl _ _).alloc (Nat.le_refl _) _
      have hb2 := hb.trans (hba.mono hb.size)
      have HS1 : Hid (∀ w, _) := fun w => gsize_any n w (by omega)
      have HS2 : Hid (∀ w, _) := fun w => gsize_any d w (by omega)
      have HS3 : Hid (∀ w, _) := fun w => gcd_any n d w (by omega) (by omega)
      rw [h4] at HS3
      clear q1 q2 h1 h2 h3 h4
      go_upto_region 4 with fail
      clear p1 p2 hba
      revert kP hb2
      generalize wr.alloc (.cells #[.int .i64 (n : Int), .int .i64 (d : Int)] 30) = w2
      generalize wr.heap.size = Pb
      intro kP hb2
      have cP := kP.cell
      have lP := kP.lt
      have HT1 : Hid (∀ x : Later w2, Hid (Calls Tryz.prog 71 #[.int .i64 (n : Int)] x.val fun e w' => e = .returned (.int .u64 (n : Int)) ∧ ∃ y : Later w2, w' = y.val)) := fun x => later_same (HS1.out x.val)
      have HT2 : Hid (∀ x : Later w2, Hid (Calls Tryz.prog 71 #[.int .i64 (d : Int)] x.val fun e w' => e = .returned (.int .u64 (d : Int)) ∧ ∃ y : Later w2, w' = y.val)) := fun x => later_same (HS2.out x.val)
      have HT3 : Hid (∀ x : Later w2, Hid (Calls Tryz.prog 72 #[.int .u64 (n : Int), .int .u64 (d : Int)] x.val fun e w' => e = .returned (.int .u64 ((1 : Nat) : Int)) ∧ ∃ y : Later w2, w' = y.val)) := fun x => later_call (HS3.out x.val)
      have hxl := later_cell (w := w2)
      clear HS1 HS2 HS3
      go_wp2_with fail
      refine wp_region_later (by kernel_rfl) (by kernel_rfl) ?_
      repeat (go_big_quiet_step (first | (go_at_call 72; exact (HT3.out _).out) | (go_at_call 71; first | (with_reducible exact (HT1.out _).out) | (with_reducible exact (HT2.out _).out))))
      refine wpQuiet_nil ?_
      rintro w6 ⟨⟨_, hbc⟩, rfl⟩
      have hb6 := hb2.trans (hbc.mono hb2.size)
      clear HT1 HT2 HT3 hxl
      go_wp2_with fail
      go_roundw
      case rel => exact ⟨k + 1, by omega, by go_num, hb6⟩
      case measure => simp [intOf]; omega
    · obtain rfl : k = m := by omega
      go_wp2_with fail
      go_ret
      exact ⟨rfl, hb⟩
end Go.Proofs.YtpklcjbdmikbdaaGreat
namespace Go.Proofs.YtpklcjbdmikbdaaGreat
set_option maxRecDepth 100000
open Go.RowKit

theorem held_var {P : Program} {ops : Array Oper} {Q : Exit → Act → World → Prop} {S : World → Prop} {id : Nat} {a : Act} {w : World} (hm : P.follows .mixedOrders = true) (hS : S w.drew)
    (h : ∀ V, V = w.drew → S V → wpAnyH P .any ops Q S ops.size (Array.replicate ops.size false) a V) : (Code.region id ops true).wp P Q a w := wp_region_held_drew hm hS (h _ rfl)
/-- Limbs as cells. -/
def rowu (l : List Nat) : Array Value := (l.map fun (x : Nat) => Value.int .u32 (x : Int)).toArray
theorem info104 : (Tryz.prog.info? 104).map (fun i => (i.zero, i.size, i.bytes)) = some (some (.int .u32 0), 1, 4) := by kernel_rfl
theorem make_u32 (n : Nat) (hn : n ≤ 100000) (w : World) : (Instr.makeSlice 73 (.int .i64 (n : Int)) (.int .i64 (n : Int))).run Tryz.prog w = .ok (.slice (some ⟨w.heap.size, 0, none⟩) n n) (w.alloc (.cells (rowu (List.replicate n 0)) 104)) := by
  obtain ⟨i0, hi, hz0, hz1, hz2⟩ := info_parts info104
  have hr := run_make (P := Tryz.prog) w 73 104 i0 (.int .u32 0) Tryz.underlying73 hi hz0 .i64 .i64 n n (by omega) (Int.le_refl _) (by rw [hz2]; omega) (by omega)
  simp only [Int.toNat_natCast] at hr
  rw [hr, hz1, Nat.mul_one]
  have e : madeCells (Value.int .u32 0).cells n = rowu (List.replicate n 0) := by
    apply Array.toList_inj.1
    have := toList_madeCells_one (.int .u32 0) n
    show (madeCells #[.int .u32 0] n).toList = _
    rw [this]
    simp [rowu]
  rw [e]
theorem rowU_of {w : World} {g c : Nat} {l : List Nat} (h : Blk w g c (rowu l)) : RowU w (some ⟨g, 0, none⟩) l.length l :=
  ⟨rfl, fun _ => ⟨g, rfl, h.lt, fun k v hk => by rw [h.cell k]; simp [rowu, hk]⟩⟩
theorem mag_one {w : World} {v : Value} {a : Nat} (h : MagW w v a) (h0 : 0 < a) (h1 : a < 4294967296) : ∃ g c, v = .slice (some ⟨g, 0, none⟩) 1 c ∧ g < w.heap.size ∧ w.cell? ⟨g, 0, none⟩ = some (.int .u32 (a : Int)) := by
  obtain ⟨A, c, e, hr⟩ := h
  have hl : limbs a = [a] := by rw [limbs_pos h0, Nat.mod_eq_of_lt h1, Nat.div_eq_of_lt h1, limbs_zero]
  rw [hl] at e hr
  obtain ⟨g, e2, hg, hc⟩ := hr.2 (by simp)
  subst e2
  exact ⟨g, c, e, hg, hc 0 a rfl⟩
theorem mag_zero {w : World} {v : Value} (h : MagW w v 0) : ∃ A c, v = .slice A 0 c := by
  obtain ⟨A, c, e, _⟩ := h
  rw [limbs_zero] at e
  exact ⟨A, c, e⟩
theorem two_of {p : Nat} (h : p < 18446744073709551616) : Limb [p % 4294967296, p / 4294967296] ∧ val [p % 4294967296, p / 4294967296] = p := two_limbs h
/-- What is returned: an integer that is not below 0. -/
def IntR (w : World) (k : Nat) (e : Ending) (w' : World) : Prop := ∃ v, e = .returned (.agg #[.bool false, v]) ∧ MagW w' v k ∧ Below w.heap.size w w'
set_option maxRecDepth 100000 in
set_option maxHeartbeats 8000000 in
theorem mul_pos (ga gb ca cb a b : Nat) (w : World) (hga : ga < w.heap.size) (hgb : gb < w.heap.size) (qa : w.cell? ⟨ga, 0, none⟩ = some (.int .u32 (a : Int))) (qb : w.cell? ⟨gb, 0, none⟩ = some (.int .u32 (b : Int))) (ha : a < 4294967296) (hb : b < 4294967296) :
    Calls Tryz.prog 88 #[.agg #[.bool false, .slice (some ⟨ga, 0, none⟩) 1 ca], .agg #[.bool false, .slice (some ⟨gb, 0, none⟩) 1 cb]] w (IntR w (a * b)) := by
  have hmk : ∀ w, (Instr.makeSlice 73 (.int .i64 2) (.int .i64 2)).run Tryz.prog w = .ok (.slice (some ⟨w.heap.size, 0, none⟩) 2 2) (w.alloc (.cells #[.int .u32 0, .int .u32 0] 104)) := fun w => make_u32 2 (by omega) w
  obtain ⟨p, hp⟩ : ∃ p, p = a * b := ⟨_, rfl⟩
  have hpb : p < 18446744073709551616 := by
    rw [hp]
    have := Nat.mul_le_mul (show a ≤ 4294967295 by omega) (show b ≤ 4294967295 by omega)
    omega
  have hmul : (a : Int) * (b : Int) = (p : Int) := by rw [hp]; push_cast; rfl
  have HM := Lib.hid hmul
  rw [← hp]
  clear hp hmul
  obtain ⟨l0, hl0⟩ : ∃ q, p % 4294967296 = q := ⟨_, rfl⟩
  obtain ⟨l1, hl1⟩ : ∃ q, p / 4294967296 = q := ⟨_, rfl⟩
  have HL0 : Hid ((p : Int) % 4294967296 = (l0 : Int)) := by show _ = _; omega
  have HL1 : Hid ((p : Int) / 4294967296 = (l1 : Int)) := by show _ = _; omega
  have HV : Hid (Limb [l0, l1] ∧ val [l0, l1] = p) := by rw [← hl0, ← hl1]; exact two_of hpb
  have b0 : l0 < 4294967296 := by omega
  have b1 : l1 < 4294967296 := by omega
  clear hl0 hl1
  have e3 : ((w.alloc (.cells #[.bool false, .slice (some ⟨ga, 0, none⟩) 1 ca] 75)).alloc (.cells #[.bool false, .slice (some ⟨gb, 0, none⟩) 1 cb] 75)).heap.size = w.heap.size + 2 := by simp
  have e1 : (w.alloc (.cells #[.bool false, .slice (some ⟨ga, 0, none⟩) 1 ca] 75)).heap.size = w.heap.size + 1 := by simp
  have kA := ((Blk.new w 75 #[.bool false, .slice (some ⟨ga, 0, none⟩) 1 ca]).alloc (.cells #[.bool false, .slice (some ⟨gb, 0, none⟩) 1 cb] 75)).alloc (.cells #[.bool false, .slice none 0 0] 75)
  have kB := (Blk.new (w.alloc (.cells #[.bool false, .slice (some ⟨ga, 0, none⟩) 1 ca] 75)) 75 #[.bool false, .slice (some ⟨gb, 0, none⟩) 1 cb]).alloc (.cells #[.bool false, .slice none 0 0] 75)
  have kR := Blk.new ((w.alloc (.cells #[.bool false, .slice (some ⟨ga, 0, none⟩) 1 ca] 75)).alloc (.cells #[.bool false, .slice (some ⟨gb, 0, none⟩) 1 cb] 75)) 75 #[.bool false, .slice none 0 0]
  rw [e1] at kB
  rw [e3] at kR
  have hb1 : Below w.heap.size w (((w.alloc (.cells #[.bool false, .slice (some ⟨ga, 0, none⟩) 1 ca] 75)).alloc (.cells #[.bool false, .slice (some ⟨gb, 0, none⟩) 1 cb] 75)).alloc (.cells #[.bool false, .slice none 0 0] 75)) :=
    (((Below.refl _ _).alloc (Nat.le_refl _) _).alloc (by simp) _).alloc (by simp; omega) _
  clear e1 e3
  go_enter Tryz.func88, Tryz.ntmps88
  go_upto_region 1 with fail
  revert kA kB kR hb1
  generalize ((w.alloc (.cells #[.bool false, .slice (some ⟨ga, 0, none⟩) 1 ca] 75)).alloc (.cells #[.bool false, .slice (some ⟨gb, 0, none⟩) 1 cb] 75)).alloc (.cells #[.bool false, .slice none 0 0] 75) = w1
  generalize hNe : w.heap.size = N
  intro kA kB kR hb1
  have HNe := Lib.hid hNe
  have hsz := hb1.size
  rw [hNe] at hga hgb hsz
  clear hNe
  have kA2 := kA.alloc (.cells #[.int .u32 0, .int .u32 0] 104)
  have kB2 := kB.alloc (.cells #[.int .u32 0, .int .u32 0] 104)
  have kR2 := kR.alloc (.cells #[.int .u32 0, .int .u32 0] 104)
  have kO2 := Blk.new w1 104 #[.int .u32 0, .int .u32 0]
  have hb2 := hb1.trans (((Below.refl w1.heap.size w1).alloc (Nat.le_refl _) (.cells #[.int .u32 0, .int .u32 0] 104)).mono hsz)
  have cA := kA.cell
  have lA := kA.lt
  have cB := kB.cell
  have lB := kB.lt
  have lR := kR.lt
  go_upto_region 2 with fail
  clear cA cB kA kB kR hmk
  revert kA2 kB2 kR2 kO2 hb2 lA lB lR
  generalize w1.alloc (.cells #[.int .u32 0, .int .u32 0] 104) = w2
  generalize w1.heap.size = g
  intro kA kB kR kO hb2 lA lB lR
  have hO := kO.lt
  have hga2 : ga < w2.heap.size := by omega
  have hgb2 : gb < w2.heap.size := by omega
  have qa2 := (hb2.cell (p := ⟨ga, 0, none⟩) hga).trans qa
  have qb2 := (hb2.cell (p := ⟨gb, 0, none⟩) hgb).trans qb
  clear qa qb hsz hb1
  have cA := kA.cell
  have cB := kB.cell
  have lA2 := kA.lt
  have lB2 := kB.lt
  go_wp2_with fail
  go_loopw [23] (fun i wr => ((i = .int .i64 0 ∧ Blk wr g 104 #[.int .u32 0, .int .u32 0]) ∨ (i = .int .i64 1 ∧ Blk wr g 104 #[.int .u32 (l0 : Int), .int .u32 (l1 : Int)])) ∧ w2.grownBy wr (some g)) (fun i _ => 1 - (intOf i).toNat)
  case atStart => exact ⟨.inl ⟨rfl, kO⟩, World.grownBy.refl _ _⟩
  case round =>
    obtain ⟨hcase, hgr⟩ := hrel
    have kA3 := kA.grown hgr (by simp; omega)
    have kB3 := kB.grown hgr (by simp; omega)
    have kR3 := kR.grown hgr (by simp; omega)
    have hgw := kB3.lt
    clear cA cB
    obtain ⟨wq, hwq⟩ : ∃ x, x = wr := ⟨_, rfl⟩
    subst hwq
    rcases hcase with ⟨rfl, kW⟩ | ⟨rfl, kW⟩
    · have qa3 := (hgr.cell_far ⟨ga, 0, none⟩ hga2 (by simp; omega)).trans qa2
      have cB := kB3.cell
      have lW := kW.lt
      have hga3 : ga < wq.heap.size := by omega
      go_wp2_with fail
      go_loopw [31, 8] (fun j c wr => ((j = .int .i64 0 ∧ c = .int .u64 0 ∧ Blk wr g 104 #[.int .u32 0, .int .u32 0]) ∨ (j = .int .i64 1 ∧ c = .int .u64 (l1 : Int) ∧ Blk wr g 104 #[.int .u32 (l0 : Int), .int .u32 0])) ∧ w2.grownBy wr (some g)) (fun j _ _ => 1 - (intOf j).toNat)
      case atStart => exact ⟨.inl ⟨rfl, rfl, kW⟩, hgr⟩
      case round =>
        obtain ⟨hcase, hgr4⟩ := hrel
        have kB4 := kB.grown hgr4 (by simp; omega)
        have qb4 := (hgr4.cell_far ⟨gb, 0, none⟩ hgb2 (by simp; omega)).trans qb2
        have lB4 := kB4.lt
        clear cB qa3 hgr
        rcases hcase with ⟨rfl, rfl, kV⟩ | ⟨rfl, rfl, kV⟩
        · have cV := kV.cell
          have fV := kV.frozen
          have lV := kV.lt
          have kV5 := kV.set_ 0 (.int .u32 (l0 : Int))
          have hgr5 := only_setCell hgr4 (p := ⟨g, 0, none⟩) (.inl rfl) (.int .u32 (l0 : Int))
          have hgb4 : gb < wr.heap.size := by omega
          have h1 := HM.out
          go_wp2_with fail
          rw [HL0.out, HL1.out]
          exact ⟨⟨.inr ⟨rfl, rfl, kV5⟩, hgr5⟩, by simp [intOf]⟩
        · have cB := kB4.cell
          have cV := kV.cell
          have fV := kV.frozen
          have lV := kV.lt
          have kV5 := kV.set_ 1 (.int .u32 (l1 : Int))
          have hgr5 := only_setCell hgr4 (p := ⟨g, 1, none⟩) (.inl rfl) (.int .u32 (l1 : Int))
          have b1i : (l1 : Int) < 4294967296 := by omega
          go_wp2_with fail
          exact ⟨⟨.inr ⟨rfl, kV5⟩, hgr5⟩, by simp [intOf]⟩
    · have lW := kW.lt
      have HT := Lib.hid fun V (h : Below wq.heap.size wq V) => trim_any (some ⟨g, 0, none⟩) 2 2 [l0, l1] V ((rowU_of (l := [l0, l1]) kW).later h) HV.out.1 (by omega) (Nat.le_refl _)
      rw [HV.out.2] at HT
      have hbw : Below N w wq := hb2.trans (below_of_only hgr (by omega) (by omega))
      go_wp2_with fail
      refine held_var (S := fun V => Blk V N 75 #[.bool false, .slice (some ⟨ga, 0, none⟩) 1 ca] ∧ Blk V (N + 1) 75 #[.bool false, .slice (some ⟨gb, 0, none⟩) 1 cb]) (by kernel_rfl) ⟨kA3.drew, kB3.drew⟩ (fun V0 hV0 hS0 => ?_)
      have hb0 : Below wq.heap.size wq V0 := by rw [hV0]; exact (Below.refl _ _).drew
      clear hV0
      refine wpAnyH_take (i := 0) (v := ?_) rfl (by kernel_rfl) (by kernel_rfl) (by kernel_rfl) (fun _ _ _ h => h) (Or.inl ⟨by rfl, ?hy⟩) (by assumption) ?_
      case hy => (intro w hSw; have cA := hSw.1.cell; have lA := hSw.1.lt; have cB := hSw.2.cell; have lB := hSw.2.lt; clear hSw; go_simp; try with_reducible rfl)
      refine wpAnyH_take (i := 1) (v := ?_) rfl (by kernel_rfl) (by kernel_rfl) (by kernel_rfl) (fun _ _ _ h => h) (Or.inl ⟨by rfl, ?hy⟩) (by assumption) ?_
      case hy => (intro w hSw; have cA := hSw.1.cell; have lA := hSw.1.lt; have cB := hSw.2.cell; have lB := hSw.2.lt; clear hSw; go_simp; try with_reducible rfl)
      refine wpAnyH_take (i := 2) (v := ?_) rfl (by kernel_rfl) (by kernel_rfl) (by kernel_rfl) (fun _ _ _ h => h) (Or.inl ⟨by rfl, ?hy⟩) (by assumption) ?_
      case hy => (intro w hSw; have cA := hSw.1.cell; have lA := hSw.1.lt; have cB := hSw.2.cell; have lB := hSw.2.lt; clear hSw; go_simp; try with_reducible rfl)
      refine wpAnyH_take (i := 3) (v := ?_) rfl (by kernel_rfl) (by kernel_rfl) (by kernel_rfl) (fun _ _ _ h => h) (Or.inl ⟨by rfl, ?hy⟩) (by assumption) ?_
      case hy => (intro w hSw; have cA := hSw.1.cell; have lA := hSw.1.lt; have cB := hSw.2.cell; have lB := hSw.2.lt; clear hSw; go_simp; try with_reducible rfl)
      refine wpAnyH_take (i := 4) (v := ?_) rfl (by kernel_rfl) (by kernel_rfl) (by kernel_rfl) (fun _ _ _ h => h) (Or.inl ⟨by rfl, ?hy⟩) (by assumption) ?_
      case hy => (intro w hSw; have cA := hSw.1.cell; have lA := hSw.1.lt; have cB := hSw.2.cell; have lB := hSw.2.lt; clear hSw; go_simp; try with_reducible rfl)
      refine wpAnyH_take (i := 5) (v := ?_) rfl (by kernel_rfl) (by kernel_rfl) (by kernel_rfl) (fun _ _ _ h => h) (Or.inl ⟨by rfl, ?hy⟩) (by assumption) ?_
      case hy => (intro w hSw; have cA := hSw.1.cell; have lA := hSw.1.lt; have cB := hSw.2.cell; have lB := hSw.2.lt; clear hSw; go_simp; try with_reducible rfl)
      simp only [Act.put, List.getElem_toArray, List.getElem_cons_succ, List.getElem_cons_zero, List.setIfInBounds_toArray, List.set_cons_succ, List.set_cons_zero]
      refine wpAnyH_ready (rs := [6]) (by kernel_rfl) (by simp) (AllReadyH.cons rfl (fun K hK => ?_) AllReadyH.nil)
      go_simp
      refine (HT.out V0 hb0).mono ?_
      rintro e w5 ⟨v5, rfl, hv5, hb5⟩
      have hb6 := hb0.trans (hb5.mono hb0.size)
      refine hK.out _ _ ⟨kA3.later hb6, kB3.later hb6⟩ (fun _ => ?_)
      clear hK K HT
      refine wpAnyH_ready (rs := [7]) (by kernel_rfl) (by simp) (AllReadyH.cons rfl (fun K hK => ?_) AllReadyH.nil)
      go_simp
      refine (made_any v5 p w5 hv5).mono ?_
      rintro e w7 ⟨rfl, hv7, hb7⟩
      have hb8 := hb6.trans (hb7.mono hb6.size)
      refine hK.out _ _ ⟨kA3.later hb8, kB3.later hb8⟩ (fun _ => ?_)
      clear hK K
      obtain ⟨A7, c7, rfl, rA7⟩ := hv7
      have RA := Lib.hid rA7
      have kR8 := kR3.later hb8
      have cR := kR8.cell
      have fR := kR8.frozen
      have lR8 := kR8.lt
      have hb9 := hbw.trans (hb8.mono (by omega))
      clear rA7 hv5
      refine wpAnyH_ready (rs := [8]) (by kernel_rfl) (by simp) (AllReadyH.cons rfl (fun K hK => ?_) AllReadyH.nil)
      go_simp
      refine hK.out _ _ ⟨((kA3.later hb8).far (p := ⟨N + 1 + 1, 0, none⟩) (show N ≠ N + 1 + 1 by omega) _).far (p := ⟨N + 1 + 1, 1, none⟩) (show N ≠ N + 1 + 1 by omega) _, ((kB3.later hb8).far (p := ⟨N + 1 + 1, 0, none⟩) (show N + 1 ≠ N + 1 + 1 by omega) _).far (p := ⟨N + 1 + 1, 1, none⟩) (show N + 1 ≠ N + 1 + 1 by omega) _⟩ (fun _ => ?_)
      clear hK K
      refine wpAnyH_done (by kernel_rfl) ?_ _
      go_wp2_with fail
      refine bodyPost_cell (N + 2) 75 #[.bool false, .slice A7 (limbs p).length c7] (.agg #[.bool false, .slice A7 (limbs p).length c7]) ((kR8.set_ 0 (.bool false)).set_ 1 (.slice A7 (limbs p).length c7)) ?_ ⟨_, rfl, ⟨A7, c7, rfl, ?_⟩, ?_⟩
      · intro W' hW'
        simp [results, Tryz.results88, go_sem, hW']
      · have h1 := RA.out.far (N := N + 2) (fun x => by rw [cR]; simp) (p := ⟨N + 2, 0, none⟩) rfl (.bool false)
        exact h1.far (N := N + 2) (fun x => by rw [(kR8.set_ 0 (.bool false)).cell]; simp) rfl _
      · rw [HNe.out]
        exact (hb9.setCell (by simp; omega) _).setCell (by simp; omega) _
end Go.Proofs.YtpklcjbdmikbdaaGreat
