/-
  The seat's texts AddW RAddW WidE WidF WidG GCmp in one: the contracts of the functions that the law reaches, and the plain laws that they rest on.
  Conditions: as each theorem states them.
-/
import Derived.Test.YtpklcjbdmikbdaaGreatGG
import Derived.Test.YtpklcjbdmikbdaaGreatGD
import Derived.Test.YtpklcjbdmikbdaaGreatGH
namespace Go.Proofs.YtpklcjbdmikbdaaGreat
set_option maxRecDepth 100000
open Go.RowKit

set_option maxHeartbeats 4000000 in
theorem add32_any (x y : Nat) (w : World) (hx : x < 4294967296) (hy : y < 4294967296) : Calls Tryz.prog 114 #[.int .u32 (x : Int), .int .u32 (y : Int), .int .u32 0] w fun e w' => e = .returned (.tuple #[.int .u32 (((x + y) % 4294967296 : Nat) : Int), .int .u32 (((x + y) / 4294967296 : Nat) : Int)]) ∧ w = w' := by
  have hx2 : (x : Int) < 4294967296 := by omega
  have hy2 : (y : Int) < 4294967296 := by omega
  go_enter Tryz.func114, Tryz.ntmps114
  go_wp2_with fail
  go_ret2
  exact ⟨rfl, rfl⟩
set_option maxRecDepth 100000 in
set_option maxHeartbeats 8000000 in
theorem plus_none (A B : Option Addr) (ca cb : Nat) (w : World) : Calls Tryz.prog 94 #[.slice A 0 ca, .slice B 0 cb] w (TrimR w 0) := by
  have hmk : ∀ w, (Instr.makeSlice 73 (.int .i64 1) (.int .i64 1)).run Tryz.prog w = .ok (.slice (some ⟨w.heap.size, 0, none⟩) 1 1) (w.alloc (.cells #[.int .u32 0] 104)) := fun w => make_u32 1 (by omega) w
  have kO := Blk.new w 104 #[.int .u32 0]
  have hb1 : Below w.heap.size w (w.alloc (.cells #[.int .u32 0] 104)) := (Below.refl _ _).alloc (Nat.le_refl _) _
  go_enter Tryz.func94, Tryz.ntmps94
  go_upto_region 4 with fail
  clear hmk
  revert kO hb1
  generalize w.alloc (.cells #[.int .u32 0] 104) = w2
  generalize hNe : w.heap.size = g
  intro kO hb1
  have HNe := Lib.hid hNe
  clear hNe
  have hO := kO.lt
  have cO := kO.cell
  have fO := kO.frozen
  have kO5 := kO.set_ 0 (.int .u32 0)
  have HT := Lib.hid (trim_any (some ⟨g, 0, none⟩) 1 1 [0] _ (rowU_of (l := [0]) kO5) (by intro a ha; simp at ha; omega) (by omega) (Nat.le_refl _))
  have hbw := hb1.setCell (p := ⟨g, 0, none⟩) (Nat.le_refl _) (.int .u32 0)
  go_wp2_with fail
  go_loopw [22, 6] (fun i c wr => i = .int .i64 0 ∧ c = .int .u32 0 ∧ wr = w2) (fun i _ _ => 0)
  case atStart => exact ⟨rfl, rfl, rfl⟩
  case round =>
    obtain ⟨rfl, rfl, rfl⟩ := hrel
    go_wp2_with fail
    refine HT.out.mono ?_
    rintro e w6 ⟨v6, rfl, hv6, hb6⟩
    go_wp2_with fail
    go_ret
    exact ⟨v6, rfl, hv6, by rw [HNe.out]; exact hbw.trans (hb6.mono (by simp [World.setCell]; omega))⟩
set_option maxRecDepth 100000 in
set_option maxHeartbeats 8000000 in
theorem plus_both (ga gb ca cb x y : Nat) (w : World) (hga : ga < w.heap.size) (hgb : gb < w.heap.size) (qa : w.cell? ⟨ga, 0, none⟩ = some (.int .u32 (x : Int))) (qb : w.cell? ⟨gb, 0, none⟩ = some (.int .u32 (y : Int))) (hx : x < 4294967296) (hy : y < 4294967296) :
    Calls Tryz.prog 94 #[.slice (some ⟨ga, 0, none⟩) 1 ca, .slice (some ⟨gb, 0, none⟩) 1 cb] w (TrimR w (x + y)) := by
  have hmk : ∀ w, (Instr.makeSlice 73 (.int .i64 2) (.int .i64 2)).run Tryz.prog w = .ok (.slice (some ⟨w.heap.size, 0, none⟩) 2 2) (w.alloc (.cells #[.int .u32 0, .int .u32 0] 104)) := fun w => make_u32 2 (by omega) w
  obtain ⟨p, hp⟩ : ∃ p, p = x + y := ⟨_, rfl⟩
  obtain ⟨l0, hl0⟩ : ∃ q, p % 4294967296 = q := ⟨_, rfl⟩
  obtain ⟨l1, hl1⟩ : ∃ q, p / 4294967296 = q := ⟨_, rfl⟩
  have HV : Hid (Limb [l0, l1] ∧ val [l0, l1] = p) := by rw [← hl0, ← hl1]; exact two_of (by omega)
  have HA : Hid (∀ w, Calls Tryz.prog 114 #[.int .u32 (x : Int), .int .u32 (y : Int), .int .u32 0] w fun e w' => e = .returned (.tuple #[.int .u32 (l0 : Int), .int .u32 (l1 : Int)]) ∧ w = w') := fun w => by
    have := add32_any x y w hx hy
    rw [← hp, hl0, hl1] at this
    exact this
  rw [← hp]
  clear hl0 hl1 hp
  have kO := Blk.new w 104 #[.int .u32 0, .int .u32 0]
  have hb1 : Below w.heap.size w (w.alloc (.cells #[.int .u32 0, .int .u32 0] 104)) := (Below.refl _ _).alloc (Nat.le_refl _) _
  go_enter Tryz.func94, Tryz.ntmps94
  go_upto_region 4 with fail
  clear hmk
  revert kO hb1
  generalize w.alloc (.cells #[.int .u32 0, .int .u32 0] 104) = w2
  generalize hNe : w.heap.size = g
  intro kO hb1
  have HNe := Lib.hid hNe
  rw [hNe] at hga hgb
  clear hNe
  have hO := kO.lt
  have hga2 : ga < w2.heap.size := by omega
  have hgb2 : gb < w2.heap.size := by omega
  have qb2 := (hb1.cell (p := ⟨gb, 0, none⟩) hgb).trans qb
  clear qb
  have qa2 := (hb1.cell (p := ⟨ga, 0, none⟩) hga).trans qa
  clear qa
  go_wp2_with fail
  go_loopw [22, 6] (fun i c wr => ((i = .int .i64 0 ∧ c = .int .u32 0 ∧ Blk wr g 104 #[.int .u32 0, .int .u32 0]) ∨ (i = .int .i64 1 ∧ c = .int .u32 (l1 : Int) ∧ Blk wr g 104 #[.int .u32 (l0 : Int), .int .u32 0])) ∧ w2.grownBy wr (some g)) (fun i _ _ => 1 - (intOf i).toNat)
  case atStart => exact ⟨.inl ⟨rfl, rfl, kO⟩, World.grownBy.refl _ _⟩
  case round =>
    obtain ⟨hcase, hgr⟩ := hrel
    obtain ⟨wq, hwq⟩ : ∃ x, x = wr := ⟨_, rfl⟩
    subst hwq
    have qa3 := (hgr.cell_far ⟨ga, 0, none⟩ hga2 (by simp; omega)).trans qa2
    have qb3 := (hgr.cell_far ⟨gb, 0, none⟩ hgb2 (by simp; omega)).trans qb2
    rcases hcase with ⟨rfl, rfl, kW⟩ | ⟨rfl, rfl, kW⟩
    · have lW := kW.lt
      have hga3 : ga < wq.heap.size := by omega
      have hgb3 : gb < wq.heap.size := by omega
      have cW := kW.cell
      have fW := kW.frozen
      have kW5 := kW.set_ 0 (.int .u32 (l0 : Int))
      have hgr5 := only_setCell hgr (p := ⟨g, 0, none⟩) (.inl rfl) (.int .u32 (l0 : Int))
      go_wp2_with fail
      refine (HA.out _).mono ?_
      rintro e w5 ⟨rfl, rfl⟩
      go_wp2_with fail
      exact ⟨⟨.inr ⟨rfl, rfl, kW5⟩, hgr5⟩, by simp [intOf]⟩
    · have lW := kW.lt
      have cW := kW.cell
      have fW := kW.frozen
      have kW5 := kW.set_ 1 (.int .u32 (l1 : Int))
      have hgr5 := only_setCell hgr (p := ⟨g, 1, none⟩) (.inl rfl) (.int .u32 (l1 : Int))
      have HT := Lib.hid (trim_any (some ⟨g, 0, none⟩) 2 2 [l0, l1] _ (rowU_of (l := [l0, l1]) kW5) HV.out.1 (by omega) (Nat.le_refl _))
      rw [HV.out.2] at HT
      have hbw : Below g w (wq.setCell ⟨g, 1, none⟩ (.int .u32 (l1 : Int))) := hb1.trans (below_of_only hgr5 (Nat.le_refl _) (by omega))
      clear kW5 hgr5 kO
      go_wp2_with fail
      refine HT.out.mono ?_
      rintro e w6 ⟨v6, rfl, hv6, hb6⟩
      go_wp2_with fail
      go_ret
      exact ⟨v6, rfl, hv6, by rw [HNe.out]; exact hbw.trans (hb6.mono (by simp [World.setCell]; omega))⟩
set_option maxRecDepth 100000 in
set_option maxHeartbeats 8000000 in
theorem plus_left (ga : Nat) (B : Option Addr) (ca cb x y : Nat) (hye : y = 0) (w : World) (hga : ga < w.heap.size) (qa : w.cell? ⟨ga, 0, none⟩ = some (.int .u32 (x : Int))) (hx : x < 4294967296) :
    Calls Tryz.prog 94 #[.slice (some ⟨ga, 0, none⟩) 1 ca, .slice B 0 cb] w (TrimR w (x + y)) := by
  have hy : y < 4294967296 := by omega
  have HY0 : Hid ((0 : Int) = (y : Int)) := by show _ = _; omega
  have hmk : ∀ w, (Instr.makeSlice 73 (.int .i64 2) (.int .i64 2)).run Tryz.prog w = .ok (.slice (some ⟨w.heap.size, 0, none⟩) 2 2) (w.alloc (.cells #[.int .u32 0, .int .u32 0] 104)) := fun w => make_u32 2 (by omega) w
  obtain ⟨p, hp⟩ : ∃ p, p = x + y := ⟨_, rfl⟩
  obtain ⟨l0, hl0⟩ : ∃ q, p % 4294967296 = q := ⟨_, rfl⟩
  obtain ⟨l1, hl1⟩ : ∃ q, p / 4294967296 = q := ⟨_, rfl⟩
  have HV : Hid (Limb [l0, l1] ∧ val [l0, l1] = p) := by rw [← hl0, ← hl1]; exact two_of (by omega)
  have HA : Hid (∀ w, Calls Tryz.prog 114 #[.int .u32 (x : Int), .int .u32 (y : Int), .int .u32 0] w fun e w' => e = .returned (.tuple #[.int .u32 (l0 : Int), .int .u32 (l1 : Int)]) ∧ w = w') := fun w => by
    have := add32_any x y w hx hy
    rw [← hp, hl0, hl1] at this
    exact this
  rw [← hp]
  rw [← HY0.out] at HA
  clear hl0 hl1 hp hye HY0
  have kO := Blk.new w 104 #[.int .u32 0, .int .u32 0]
  have hb1 : Below w.heap.size w (w.alloc (.cells #[.int .u32 0, .int .u32 0] 104)) := (Below.refl _ _).alloc (Nat.le_refl _) _
  go_enter Tryz.func94, Tryz.ntmps94
  go_upto_region 4 with fail
  clear hmk
  revert kO hb1
  generalize w.alloc (.cells #[.int .u32 0, .int .u32 0] 104) = w2
  generalize hNe : w.heap.size = g
  intro kO hb1
  have HNe := Lib.hid hNe
  rw [hNe] at hga
  clear hNe
  have hO := kO.lt
  have hga2 : ga < w2.heap.size := by omega
  have qa2 := (hb1.cell (p := ⟨ga, 0, none⟩) hga).trans qa
  clear qa
  go_wp2_with fail
  go_loopw [22, 6] (fun i c wr => ((i = .int .i64 0 ∧ c = .int .u32 0 ∧ Blk wr g 104 #[.int .u32 0, .int .u32 0]) ∨ (i = .int .i64 1 ∧ c = .int .u32 (l1 : Int) ∧ Blk wr g 104 #[.int .u32 (l0 : Int), .int .u32 0])) ∧ w2.grownBy wr (some g)) (fun i _ _ => 1 - (intOf i).toNat)
  case atStart => exact ⟨.inl ⟨rfl, rfl, kO⟩, World.grownBy.refl _ _⟩
  case round =>
    obtain ⟨hcase, hgr⟩ := hrel
    obtain ⟨wq, hwq⟩ : ∃ x, x = wr := ⟨_, rfl⟩
    subst hwq
    have qa3 := (hgr.cell_far ⟨ga, 0, none⟩ hga2 (by simp; omega)).trans qa2
    rcases hcase with ⟨rfl, rfl, kW⟩ | ⟨rfl, rfl, kW⟩
    · have lW := kW.lt
      have hga3 : ga < wq.heap.size := by omega

      have cW := kW.cell
      have fW := kW.frozen
      have kW5 := kW.set_ 0 (.int .u32 (l0 : Int))
      have hgr5 := only_setCell hgr (p := ⟨g, 0, none⟩) (.inl rfl) (.int .u32 (l0 : Int))
      go_wp2_with fail
      refine (HA.out _).mono ?_
      rintro e w5 ⟨rfl, rfl⟩
      go_wp2_with fail
      exact ⟨⟨.inr ⟨rfl, rfl, kW5⟩, hgr5⟩, by simp [intOf]⟩
    · have lW := kW.lt
      have cW := kW.cell
      have fW := kW.frozen
      have kW5 := kW.set_ 1 (.int .u32 (l1 : Int))
      have hgr5 := only_setCell hgr (p := ⟨g, 1, none⟩) (.inl rfl) (.int .u32 (l1 : Int))
      have HT := Lib.hid (trim_any (some ⟨g, 0, none⟩) 2 2 [l0, l1] _ (rowU_of (l := [l0, l1]) kW5) HV.out.1 (by omega) (Nat.le_refl _))
      rw [HV.out.2] at HT
      have hbw : Below g w (wq.setCell ⟨g, 1, none⟩ (.int .u32 (l1 : Int))) := hb1.trans (below_of_only hgr5 (Nat.le_refl _) (by omega))
      clear kW5 hgr5 kO
      go_wp2_with fail
      refine HT.out.mono ?_
      rintro e w6 ⟨v6, rfl, hv6, hb6⟩
      go_wp2_with fail
      go_ret
      exact ⟨v6, rfl, hv6, by rw [HNe.out]; exact hbw.trans (hb6.mono (by simp [World.setCell]; omega))⟩
set_option maxRecDepth 100000 in
set_option maxHeartbeats 8000000 in
theorem plus_right (A : Option Addr) (ga : Nat) (ca cb x y : Nat) (hye : y = 0) (w : World) (hga : ga < w.heap.size) (qa : w.cell? ⟨ga, 0, none⟩ = some (.int .u32 (x : Int))) (hx : x < 4294967296) :
    Calls Tryz.prog 94 #[.slice A 0 cb, .slice (some ⟨ga, 0, none⟩) 1 ca] w (TrimR w (x + y)) := by
  have hy : y < 4294967296 := by omega
  have HY0 : Hid ((0 : Int) = (y : Int)) := by show _ = _; omega
  have hmk : ∀ w, (Instr.makeSlice 73 (.int .i64 2) (.int .i64 2)).run Tryz.prog w = .ok (.slice (some ⟨w.heap.size, 0, none⟩) 2 2) (w.alloc (.cells #[.int .u32 0, .int .u32 0] 104)) := fun w => make_u32 2 (by omega) w
  obtain ⟨p, hp⟩ : ∃ p, p = x + y := ⟨_, rfl⟩
  obtain ⟨l0, hl0⟩ : ∃ q, p % 4294967296 = q := ⟨_, rfl⟩
  obtain ⟨l1, hl1⟩ : ∃ q, p / 4294967296 = q := ⟨_, rfl⟩
  have HV : Hid (Limb [l0, l1] ∧ val [l0, l1] = p) := by rw [← hl0, ← hl1]; exact two_of (by omega)
  have HA : Hid (∀ w, Calls Tryz.prog 114 #[.int .u32 (x : Int), .int .u32 (y : Int), .int .u32 0] w fun e w' => e = .returned (.tuple #[.int .u32 (l0 : Int), .int .u32 (l1 : Int)]) ∧ w = w') := fun w => by
    have := add32_any x y w hx hy
    rw [← hp, hl0, hl1] at this
    exact this
  rw [← hp]
  rw [← HY0.out] at HA
  clear hl0 hl1 hp hye HY0
  have kO := Blk.new w 104 #[.int .u32 0, .int .u32 0]
  have hb1 : Below w.heap.size w (w.alloc (.cells #[.int .u32 0, .int .u32 0] 104)) := (Below.refl _ _).alloc (Nat.le_refl _) _
  go_enter Tryz.func94, Tryz.ntmps94
  go_upto_region 4 with fail
  clear hmk
  revert kO hb1
  generalize w.alloc (.cells #[.int .u32 0, .int .u32 0] 104) = w2
  generalize hNe : w.heap.size = g
  intro kO hb1
  have HNe := Lib.hid hNe
  rw [hNe] at hga
  clear hNe
  have hO := kO.lt
  have hga2 : ga < w2.heap.size := by omega
  have qa2 := (hb1.cell (p := ⟨ga, 0, none⟩) hga).trans qa
  clear qa
  go_wp2_with fail
  go_loopw [22, 6] (fun i c wr => ((i = .int .i64 0 ∧ c = .int .u32 0 ∧ Blk wr g 104 #[.int .u32 0, .int .u32 0]) ∨ (i = .int .i64 1 ∧ c = .int .u32 (l1 : Int) ∧ Blk wr g 104 #[.int .u32 (l0 : Int), .int .u32 0])) ∧ w2.grownBy wr (some g)) (fun i _ _ => 1 - (intOf i).toNat)
  case atStart => exact ⟨.inl ⟨rfl, rfl, kO⟩, World.grownBy.refl _ _⟩
  case round =>
    obtain ⟨hcase, hgr⟩ := hrel
    obtain ⟨wq, hwq⟩ : ∃ x, x = wr := ⟨_, rfl⟩
    subst hwq
    have qa3 := (hgr.cell_far ⟨ga, 0, none⟩ hga2 (by simp; omega)).trans qa2
    rcases hcase with ⟨rfl, rfl, kW⟩ | ⟨rfl, rfl, kW⟩
    · have lW := kW.lt
      have hga3 : ga < wq.heap.size := by omega

      have cW := kW.cell
      have fW := kW.frozen
      have kW5 := kW.set_ 0 (.int .u32 (l0 : Int))
      have hgr5 := only_setCell hgr (p := ⟨g, 0, none⟩) (.inl rfl) (.int .u32 (l0 : Int))
      go_wp2_with fail
      refine (HA.out _).mono ?_
      rintro e w5 ⟨rfl, rfl⟩
      go_wp2_with fail
      exact ⟨⟨.inr ⟨rfl, rfl, kW5⟩, hgr5⟩, by simp [intOf]⟩
    · have lW := kW.lt
      have cW := kW.cell
      have fW := kW.frozen
      have kW5 := kW.set_ 1 (.int .u32 (l1 : Int))
      have hgr5 := only_setCell hgr (p := ⟨g, 1, none⟩) (.inl rfl) (.int .u32 (l1 : Int))
      have HT := Lib.hid (trim_any (some ⟨g, 0, none⟩) 2 2 [l0, l1] _ (rowU_of (l := [l0, l1]) kW5) HV.out.1 (by omega) (Nat.le_refl _))
      rw [HV.out.2] at HT
      have hbw : Below g w (wq.setCell ⟨g, 1, none⟩ (.int .u32 (l1 : Int))) := hb1.trans (below_of_only hgr5 (Nat.le_refl _) (by omega))
      clear kW5 hgr5 kO
      go_wp2_with fail
      refine HT.out.mono ?_
      rintro e w6 ⟨v6, rfl, hv6, hb6⟩
      go_wp2_with fail
      go_ret
      exact ⟨v6, rfl, hv6, by rw [HNe.out]; exact hbw.trans (hb6.mono (by simp [World.setCell]; omega))⟩
/-- The sum of two sizes. -/
theorem plus_any (va vb : Value) (a b : Nat) (w : World) (ha : MagW w va a) (hb : MagW w vb b) (ha2 : a < 4294967296) (hb2 : b < 4294967296) : Calls Tryz.prog 94 #[va, vb] w (TrimR w (a + b)) := by
  rcases Nat.eq_zero_or_pos a with rfl | h0
  · obtain ⟨A, c, rfl⟩ := mag_zero ha
    rcases Nat.eq_zero_or_pos b with rfl | h1
    · obtain ⟨B, d, rfl⟩ := mag_zero hb
      exact plus_none A B c d w
    · obtain ⟨g, d, rfl, hg, hc⟩ := mag_one hb h1 hb2
      rw [Nat.add_comm]
      exact plus_right A g d c b 0 rfl w hg hc hb2
  · obtain ⟨g, c, rfl, hg, hc⟩ := mag_one ha h0 ha2
    rcases Nat.eq_zero_or_pos b with rfl | h1
    · obtain ⟨B, d, rfl⟩ := mag_zero hb
      exact plus_left g B c d a 0 rfl w hg hc ha2
    · obtain ⟨g2, d, rfl, hg2, hc2⟩ := mag_one hb h1 hb2
      exact plus_both g g2 c d a b w hg hg2 hc hc2 ha2 hb2
end Go.Proofs.YtpklcjbdmikbdaaGreat
namespace Go.Proofs.YtpklcjbdmikbdaaGreat
set_option maxRecDepth 100000
open Go.RowKit

set_option maxRecDepth 100000 in
set_option maxHeartbeats 8000000 in
theorem intAdd_any (va vb : Value) (a b : Nat) (w : World) (ha : MagW w va a) (hb : MagW w vb b) (ha2 : a < 4294967296) (hb2 : b < 4294967296) : Calls Tryz.prog 117 #[.agg #[.bool false, va], .agg #[.bool false, vb]] w (IntR w (a + b)) := by
  have HP : Hid (∀ V, Below w.heap.size w V → Calls Tryz.prog 94 #[va, vb] V (TrimR V (a + b))) := fun V h => plus_any va vb a b V (ha.later h) (hb.later h) ha2 hb2
  obtain ⟨A, c, rfl, rA⟩ := ha
  obtain ⟨B, d, rfl, rB⟩ := hb
  clear rA rB
  generalize (limbs a).length = n at *
  generalize (limbs b).length = m at *
  obtain ⟨p, hp⟩ : ∃ p, p = a + b := ⟨_, rfl⟩
  rw [← hp] at HP ⊢
  clear hp ha2 hb2
  have e3 : ((w.alloc (.cells #[.bool false, .slice A n c] 75)).alloc (.cells #[.bool false, .slice B m d] 75)).heap.size = w.heap.size + 2 := by simp
  have e1 : (w.alloc (.cells #[.bool false, .slice A n c] 75)).heap.size = w.heap.size + 1 := by simp
  have kA := ((Blk.new w 75 #[.bool false, .slice A n c]).alloc (.cells #[.bool false, .slice B m d] 75)).alloc (.cells #[.bool false, .slice none 0 0] 75)
  have kB := (Blk.new (w.alloc (.cells #[.bool false, .slice A n c] 75)) 75 #[.bool false, .slice B m d]).alloc (.cells #[.bool false, .slice none 0 0] 75)
  have kR := Blk.new ((w.alloc (.cells #[.bool false, .slice A n c] 75)).alloc (.cells #[.bool false, .slice B m d] 75)) 75 #[.bool false, .slice none 0 0]
  rw [e1] at kB
  rw [e3] at kR
  have hb1 : Below w.heap.size w (((w.alloc (.cells #[.bool false, .slice A n c] 75)).alloc (.cells #[.bool false, .slice B m d] 75)).alloc (.cells #[.bool false, .slice none 0 0] 75)) :=
    (((Below.refl _ _).alloc (Nat.le_refl _) _).alloc (by simp) _).alloc (by simp; omega) _
  clear e1 e3
  go_enter Tryz.func117, Tryz.ntmps117
  go_upto_region 1 with fail
  revert kA kB kR hb1
  generalize ((w.alloc (.cells #[.bool false, .slice A n c] 75)).alloc (.cells #[.bool false, .slice B m d] 75)).alloc (.cells #[.bool false, .slice none 0 0] 75) = wq
  generalize hNe : w.heap.size = N
  intro kA kB kR hb1
  have HNe := Lib.hid hNe
  have hsz := hb1.size
  rw [hNe] at hsz
  clear hNe
  have lR := kR.lt
  have cA := kA.cell
  have lA := kA.lt
  have cB := kB.cell
  have lB := kB.lt
  have hbe : ((false : Bool) == false) = true := rfl
  go_upto_region 2 with fail
  clear cA lA cB lB
  refine held_var (S := fun V => Blk V N 75 #[.bool false, .slice A n c] ∧ Blk V (N + 1) 75 #[.bool false, .slice B m d]) (by kernel_rfl) ⟨kA.drew, kB.drew⟩ (fun V0 hV0 hS0 => ?_)
  have hb0 : Below wq.heap.size wq V0 := by rw [hV0]; exact (Below.refl _ _).drew
  clear hV0
  refine wpAnyH_take (i := 0) (v := ?_) rfl (by kernel_rfl) (by kernel_rfl) (by kernel_rfl) (fun _ _ _ h => h) (Or.inl ⟨by rfl, ?hy⟩) (by assumption) ?_
  case hy => (intro w hSw; have cA := hSw.1.cell; have lA := hSw.1.lt; have cB := hSw.2.cell; have lB := hSw.2.lt; clear hSw; go_simp; try with_reducible rfl)
  refine wpAnyH_take (i := 1) (v := ?_) rfl (by kernel_rfl) (by kernel_rfl) (by kernel_rfl) (fun _ _ _ h => h) (Or.inl ⟨by rfl, ?hy⟩) (by assumption) ?_
  case hy => (intro w hSw; have cA := hSw.1.cell; have lA := hSw.1.lt; have cB := hSw.2.cell; have lB := hSw.2.lt; clear hSw; go_simp; try with_reducible rfl)
  refine wpAnyH_take (i := 2) (v := ?_) rfl (by kernel_rfl) (by kernel_rfl) (by kernel_rfl) (fun _ _ _ h => h) (Or.inl ⟨by rfl, ?hy⟩) (by assumption) ?_
  case hy => (intro w hSw; have cA := hSw.1.cell; have lA := hSw.1.lt; have cB := hSw.2.cell; have lB := hSw.2.lt; clear hSw; go_simp; try with_reducible rfl)
  refine wpAnyH_take (i := 3) (v := ?_) rfl (by kernel_rfl) (by kernel_rfl) (by kernel_rfl) (fun _ _ _ h => h) (Or.inl ⟨by rfl, ?hy⟩) (by assumption) ?_
  case hy => (intro w hSw; have cA := hSw.1.cell; have lA := hSw.1.lt; have cB := hSw.2.cell; have lB := hSw.2.lt; clear hSw; go_simp; try with_reducible rfl)
  refine wpAnyH_take (i := 4) (v := ?_) rfl (by kernel_rfl) (by kernel_rfl) (by kernel_rfl) (fun _ _ _ h => h) (Or.inl ⟨by rfl, ?hy⟩) (by assumption) ?_
  case hy => (intro w hSw; have cA := hSw.1.cell; have lA := hSw.1.lt; have cB := hSw.2.cell; have lB := hSw.2.lt; clear hSw; go_simp; try with_reducible rfl)
  refine wpAnyH_take (i := 5) (v := ?_) rfl (by kernel_rfl) (by kernel_rfl) (by kernel_rfl) (fun _ _ _ h => h) (Or.inl ⟨by rfl, ?hy⟩) (by assumption) ?_
  case hy => (intro w hSw; have cA := hSw.1.cell; have lA := hSw.1.lt; have cB := hSw.2.cell; have lB := hSw.2.lt; clear hSw; go_simp; try with_reducible rfl)
  simp only [Act.put, List.getElem_toArray, List.getElem_cons_succ, List.getElem_cons_zero, List.setIfInBounds_toArray, List.set_cons_succ, List.set_cons_zero]
  refine wpAnyH_ready (rs := [6]) (by kernel_rfl) (by simp) (AllReadyH.cons rfl (fun K hK => ?_) AllReadyH.nil)
  go_simp
  refine (HP.out V0 (by rw [HNe.out]; exact hb1.trans (hb0.mono hsz))).mono ?_
  rintro e w5 ⟨v5, rfl, hv5, hb5⟩
  have hb6 := hb0.trans (hb5.mono hb0.size)
  refine hK.out _ _ ⟨kA.later hb6, kB.later hb6⟩ (fun _ => ?_)
  clear hK K HP
  refine wpAnyH_ready (rs := [7]) (by kernel_rfl) (by simp) (AllReadyH.cons rfl (fun K hK => ?_) AllReadyH.nil)
  go_simp
  refine (made_any v5 p w5 hv5).mono ?_
  rintro e w7 ⟨rfl, hv7, hb7⟩
  have hbz := hb6.trans (hb7.mono hb6.size)
  refine hK.out _ _ ⟨kA.later hbz, kB.later hbz⟩ (fun _ => ?_)
  clear hK K
  obtain ⟨A7, c7, rfl, rA7⟩ := hv7
  have RA := Lib.hid rA7
  have kR8 := kR.later hbz
  have cR := kR8.cell
  have fR := kR8.frozen
  have lR8 := kR8.lt
  have hb9 := hb1.trans (hbz.mono hsz)
  clear rA7 hv5
  refine wpAnyH_ready (rs := [8]) (by kernel_rfl) (by simp) (AllReadyH.cons rfl (fun K hK => ?_) AllReadyH.nil)
  go_simp
  refine hK.out _ _ ⟨((((kA.later hbz).far (p := ⟨N + 1 + 1, 0, none⟩) (show N ≠ N + 1 + 1 by omega) _)).far (p := ⟨N + 1 + 1, 1, none⟩) (show N ≠ N + 1 + 1 by omega) _), ((((kB.later hbz).far (p := ⟨N + 1 + 1, 0, none⟩) (show N + 1 ≠ N + 1 + 1 by omega) _)).far (p := ⟨N + 1 + 1, 1, none⟩) (show N + 1 ≠ N + 1 + 1 by omega) _)⟩ (fun _ => ?_)
  clear hK K
  refine wpAnyH_done (by kernel_rfl) ?_ _
  go_wp2_with fail
  refine bodyPost_cell (N + 2) 75 #[.bool false, .slice A7 (limbs p).length c7] (.agg #[.bool false, .slice A7 (limbs p).length c7]) ((kR8.set_ 0 (.bool false)).set_ 1 (.slice A7 (limbs p).length c7)) ?_ ⟨_, rfl, ⟨A7, c7, rfl, ?_⟩, ?_⟩
  · intro W' hW'
    simp [results, Tryz.results117, go_sem, hW']
  · have h1 := RA.out.far (N := N + 2) (fun x => by rw [cR]; simp) (p := ⟨N + 2, 0, none⟩) rfl (.bool false)
    exact h1.far (N := N + 2) (fun x => by rw [(kR8.set_ 0 (.bool false)).cell]; simp) rfl _
  · rw [HNe.out]
    exact (hb9.setCell (by simp; omega) _).setCell (by simp; omega) _
set_option maxRecDepth 100000 in
set_option maxHeartbeats 8000000 in
theorem mul_zero (A : Option Addr) (gb ca cb p : Nat) (hp0 : p = 0) (w : World) : Calls Tryz.prog 88 #[.agg #[.bool false, .slice A 0 ca], .agg #[.bool false, .slice (some ⟨gb, 0, none⟩) 1 cb]] w (IntR w p) := by
  have HP0 : Hid (val [0] = p) := by show _ = _; rw [hp0]; rfl
  clear hp0
  have hmk : ∀ w, (Instr.makeSlice 73 (.int .i64 1) (.int .i64 1)).run Tryz.prog w = .ok (.slice (some ⟨w.heap.size, 0, none⟩) 1 1) (w.alloc (.cells #[.int .u32 0] 104)) := fun w => make_u32 1 (by omega) w
  have e3 : ((w.alloc (.cells #[.bool false, .slice A 0 ca] 75)).alloc (.cells #[.bool false, .slice (some ⟨gb, 0, none⟩) 1 cb] 75)).heap.size = w.heap.size + 2 := by simp
  have e1 : (w.alloc (.cells #[.bool false, .slice A 0 ca] 75)).heap.size = w.heap.size + 1 := by simp
  have kA := ((Blk.new w 75 #[.bool false, .slice A 0 ca]).alloc (.cells #[.bool false, .slice (some ⟨gb, 0, none⟩) 1 cb] 75)).alloc (.cells #[.bool false, .slice none 0 0] 75)
  have kB := (Blk.new (w.alloc (.cells #[.bool false, .slice A 0 ca] 75)) 75 #[.bool false, .slice (some ⟨gb, 0, none⟩) 1 cb]).alloc (.cells #[.bool false, .slice none 0 0] 75)
  have kR := Blk.new ((w.alloc (.cells #[.bool false, .slice A 0 ca] 75)).alloc (.cells #[.bool false, .slice (some ⟨gb, 0, none⟩) 1 cb] 75)) 75 #[.bool false, .slice none 0 0]
  rw [e1] at kB
  rw [e3] at kR
  have hb1 : Below w.heap.size w (((w.alloc (.cells #[.bool false, .slice A 0 ca] 75)).alloc (.cells #[.bool false, .slice (some ⟨gb, 0, none⟩) 1 cb] 75)).alloc (.cells #[.bool false, .slice none 0 0] 75)) :=
    (((Below.refl _ _).alloc (Nat.le_refl _) _).alloc (by simp) _).alloc (by simp; omega) _
  clear e1 e3
  go_enter Tryz.func88, Tryz.ntmps88
  go_upto_region 1 with fail
  revert kA kB kR hb1
  generalize ((w.alloc (.cells #[.bool false, .slice A 0 ca] 75)).alloc (.cells #[.bool false, .slice (some ⟨gb, 0, none⟩) 1 cb] 75)).alloc (.cells #[.bool false, .slice none 0 0] 75) = w1
  generalize hNe : w.heap.size = N
  intro kA kB kR hb1
  have HNe := Lib.hid hNe
  have hsz := hb1.size
  rw [hNe] at hsz
  clear hNe
  have lR := kR.lt
  have kA2 := kA.alloc (.cells #[.int .u32 0] 104)
  have kB2 := kB.alloc (.cells #[.int .u32 0] 104)
  have kR2 := kR.alloc (.cells #[.int .u32 0] 104)
  have kO2 := Blk.new w1 104 #[.int .u32 0]
  have hb2 := hb1.trans (((Below.refl w1.heap.size w1).alloc (Nat.le_refl _) (.cells #[.int .u32 0] 104)).mono hsz)
  have cA := kA.cell
  have lA := kA.lt
  have cB := kB.cell
  have lB := kB.lt
  go_upto_region 2 with fail
  clear cA cB kA kB kR hmk hb1
  revert kA2 kB2 kR2 kO2 hb2 lA lB lR
  generalize w1.alloc (.cells #[.int .u32 0] 104) = wq
  generalize w1.heap.size = g
  intro lR kA kB kR kO hb1 lA lB
  have hsz := hb1.size
  rw [HNe.out] at hsz
  have cA := kA.cell
  have cB := kB.cell
  have lA2 := kA.lt
  have lB2 := kB.lt
  go_wp2_with fail
  go_loopw [23] (fun i wr => i = .int .i64 0 ∧ wr = wq) (fun i _ => 0)
  case atStart => exact ⟨rfl, rfl⟩
  case round =>
    obtain ⟨rfl, rfl⟩ := hrel
    obtain ⟨wq, hwq⟩ : ∃ x, x = wr := ⟨_, rfl⟩
    subst hwq
    have HT := Lib.hid fun V (h : Below wq.heap.size wq V) => trim_any (some ⟨g, 0, none⟩) 1 1 [0] V ((rowU_of (l := [0]) kO).later h) (by intro a ha; simp at ha; omega) (by omega) (Nat.le_refl _)
    rw [HP0.out] at HT
    have hbe : ((false : Bool) != false) = false := rfl
    go_wp2_with fail
    clear cA cB lA2 lB2
    refine held_var (S := fun V => Blk V N 75 #[.bool false, .slice A 0 ca] ∧ Blk V (N + 1) 75 #[.bool false, .slice (some ⟨gb, 0, none⟩) 1 cb]) (by kernel_rfl) ⟨kA.drew, kB.drew⟩ (fun V0 hV0 hS0 => ?_)
    have hb0 : Below wq.heap.size wq V0 := by rw [hV0]; exact (Below.refl _ _).drew
    clear hV0
    refine wpAnyH_take (i := 0) (v := ?_) rfl (by kernel_rfl) (by kernel_rfl) (by kernel_rfl) (fun _ _ _ h => h) (Or.inl ⟨by rfl, ?hy⟩) (by assumption) ?_
    case hy => (intro w hSw; have cA := hSw.1.cell; have lA := hSw.1.lt; have cB := hSw.2.cell; have lB := hSw.2.lt; clear hSw; go_simp; try with_reducible rfl)
    refine wpAnyH_take (i := 1) (v := ?_) rfl (by kernel_rfl) (by kernel_rfl) (by kernel_rfl) (fun _ _ _ h => h) (Or.inl ⟨by rfl, ?hy⟩) (by assumption) ?_
    case hy => (intro w hSw; have cA := hSw.1.cell; have lA := hSw.1.lt; have cB := hSw.2.cell; have lB := hSw.2.lt; clear hSw; go_simp; try with_reducible rfl)
    refine wpAnyH_take (i := 2) (v := ?_) rfl (by kernel_rfl) (by kernel_rfl) (by kernel_rfl) (fun _ _ _ h => h) (Or.inl ⟨by rfl, ?hy⟩) (by assumption) ?_
    case hy => (intro w hSw; have cA := hSw.1.cell; have lA := hSw.1.lt; have cB := hSw.2.cell; have lB := hSw.2.lt; clear hSw; go_simp; try with_reducible rfl)
    refine wpAnyH_take (i := 3) (v := ?_) rfl (by kernel_rfl) (by kernel_rfl) (by kernel_rfl) (fun _ _ _ h => h) (Or.inl ⟨by rfl, ?hy⟩) (by assumption) ?_
    case hy => (intro w hSw; have cA := hSw.1.cell; have lA := hSw.1.lt; have cB := hSw.2.cell; have lB := hSw.2.lt; clear hSw; go_simp; try with_reducible rfl)
    refine wpAnyH_take (i := 4) (v := ?_) rfl (by kernel_rfl) (by kernel_rfl) (by kernel_rfl) (fun _ _ _ h => h) (Or.inl ⟨by rfl, ?hy⟩) (by assumption) ?_
    case hy => (intro w hSw; have cA := hSw.1.cell; have lA := hSw.1.lt; have cB := hSw.2.cell; have lB := hSw.2.lt; clear hSw; go_simp; try with_reducible rfl)
    refine wpAnyH_take (i := 5) (v := ?_) rfl (by kernel_rfl) (by kernel_rfl) (by kernel_rfl) (fun _ _ _ h => h) (Or.inl ⟨by rfl, ?hy⟩) (by assumption) ?_
    case hy => (intro w hSw; have cA := hSw.1.cell; have lA := hSw.1.lt; have cB := hSw.2.cell; have lB := hSw.2.lt; clear hSw; go_simp; try with_reducible rfl)
    simp only [Act.put, List.getElem_toArray, List.getElem_cons_succ, List.getElem_cons_zero, List.setIfInBounds_toArray, List.set_cons_succ, List.set_cons_zero]
    refine wpAnyH_ready (rs := [6]) (by kernel_rfl) (by simp) (AllReadyH.cons rfl (fun K hK => ?_) AllReadyH.nil)
    go_simp
    refine (HT.out V0 hb0).mono ?_
    rintro e w5 ⟨v5, rfl, hv5, hb5⟩
    have hb6 := hb0.trans (hb5.mono hb0.size)
    refine hK.out _ _ ⟨kA.later hb6, kB.later hb6⟩ (fun _ => ?_)
    clear hK K HT
    refine wpAnyH_ready (rs := [7]) (by kernel_rfl) (by simp) (AllReadyH.cons rfl (fun K hK => ?_) AllReadyH.nil)
    go_simp
    refine (made_any v5 _ w5 hv5).mono ?_
    rintro e w7 ⟨rfl, hv7, hb7⟩
    have hbz := hb6.trans (hb7.mono hb6.size)
    refine hK.out _ _ ⟨kA.later hbz, kB.later hbz⟩ (fun _ => ?_)
    clear hK K
    obtain ⟨A7, c7, rfl, rA7⟩ := hv7
    have RA := Lib.hid rA7
    have kR8 := kR.later hbz
    have cR := kR8.cell
    have fR := kR8.frozen
    have lR8 := kR8.lt
    have hb9 := hb1.trans (hbz.mono (by omega))
    clear rA7 hv5
    refine wpAnyH_ready (rs := [8]) (by kernel_rfl) (by simp) (AllReadyH.cons rfl (fun K hK => ?_) AllReadyH.nil)
    go_simp
    refine hK.out _ _ ⟨((((kA.later hbz).far (p := ⟨N + 1 + 1, 0, none⟩) (show N ≠ N + 1 + 1 by omega) _)).far (p := ⟨N + 1 + 1, 1, none⟩) (show N ≠ N + 1 + 1 by omega) _), ((((kB.later hbz).far (p := ⟨N + 1 + 1, 0, none⟩) (show N + 1 ≠ N + 1 + 1 by omega) _)).far (p := ⟨N + 1 + 1, 1, none⟩) (show N + 1 ≠ N + 1 + 1 by omega) _)⟩ (fun _ => ?_)
    clear hK K
    refine wpAnyH_done (by kernel_rfl) ?_ _
    go_wp2_with fail
    refine bodyPost_cell (N + 2) 75 #[.bool false, .slice A7 (limbs p).length c7] (.agg #[.bool false, .slice A7 (limbs p).length c7]) ((kR8.set_ 0 (.bool false)).set_ 1 (.slice A7 (limbs p).length c7)) ?_ ⟨_, rfl, ⟨A7, c7, rfl, ?_⟩, ?_⟩
    · intro W' hW'
      simp [results, Tryz.results88, go_sem, hW']
    · have h1 := RA.out.far (N := N + 2) (fun x => by rw [cR]; simp) (p := ⟨N + 2, 0, none⟩) rfl (.bool false)
      exact h1.far (N := N + 2) (fun x => by rw [(kR8.set_ 0 (.bool false)).cell]; simp) rfl _
    · rw [HNe.out]
      exact (hb9.setCell (by simp; omega) _).setCell (by simp; omega) _
/-- The product of two integers. -/
theorem mul_any (va vb : Value) (a b : Nat) (w : World) (ha : MagW w va a) (hb : MagW w vb b) (ha2 : a < 4294967296) (hb2 : b < 4294967296) (hb0 : 0 < b) : Calls Tryz.prog 88 #[.agg #[.bool false, va], .agg #[.bool false, vb]] w (IntR w (a * b)) := by
  obtain ⟨g2, d, rfl, hg2, hc2⟩ := mag_one hb hb0 hb2
  rcases Nat.eq_zero_or_pos a with rfl | h0
  · obtain ⟨A, c, rfl⟩ := mag_zero ha
    rw [Nat.zero_mul]
    exact mul_zero A g2 c d 0 rfl w
  · obtain ⟨g, c, rfl, hg, hc⟩ := mag_one ha h0 ha2
    exact mul_pos g g2 c d a b w hg hg2 hc hc2 ha2 hb2
/-- What is returned: a fraction of two integers. -/
def RatR (w : World) (n d : Nat) (e : Ending) (w' : World) : Prop := ∃ va vb, e = .returned (.agg #[.bool false, va, .bool false, vb]) ∧ MagW w' va n ∧ MagW w' vb d ∧ Below w.heap.size w w'
set_option maxRecDepth 100000 in
set_option maxHeartbeats 8000000 in
theorem from_any (n d : Nat) (w : World) (hn : n < 9223372036854775808) (hd : d < 9223372036854775808) : Calls Tryz.prog 73 #[.agg #[.int .i64 (n : Int), .int .i64 (d : Int)]] w (RatR w n d) := by
  have HN : Hid (∀ V, Below w.heap.size w V → _) := fun V _ => of_any n V hn
  have HD : Hid (∀ V, Below w.heap.size w V → _) := fun V _ => of_any d V hd
  have e1 : (w.alloc (.cells #[.int .i64 (n : Int), .int .i64 (d : Int)] 30)).heap.size = w.heap.size + 1 := by simp
  have kA := (Blk.new w 30 #[.int .i64 (n : Int), .int .i64 (d : Int)]).alloc (.cells #[.bool false, .slice none 0 0, .bool false, .slice none 0 0] 77)
  have kR := Blk.new (w.alloc (.cells #[.int .i64 (n : Int), .int .i64 (d : Int)] 30)) 77 #[.bool false, .slice none 0 0, .bool false, .slice none 0 0]
  rw [e1] at kR
  have hb1 : Below w.heap.size w ((w.alloc (.cells #[.int .i64 (n : Int), .int .i64 (d : Int)] 30)).alloc (.cells #[.bool false, .slice none 0 0, .bool false, .slice none 0 0] 77)) := ((Below.refl _ _).alloc (Nat.le_refl _) _).alloc (by simp) _
  clear e1
  go_enter Tryz.func73, Tryz.ntmps73
  go_upto_region 1 with fail
  revert kA kR hb1
  generalize (w.alloc (.cells #[.int .i64 (n : Int), .int .i64 (d : Int)] 30)).alloc (.cells #[.bool false, .slice none 0 0, .bool false, .slice none 0 0] 77) = wq
  generalize hNe : w.heap.size = N
  intro kA kR hb1
  have HNe := Lib.hid hNe
  have hsz := hb1.size
  rw [hNe] at hsz
  clear hNe
  have lR := kR.lt
  refine held_var (S := fun V => Blk V N 30 #[.int .i64 (n : Int), .int .i64 (d : Int)]) (by kernel_rfl) kA.drew (fun V0 hV0 hS0 => ?_)
  have hb0 : Below wq.heap.size wq V0 := by rw [hV0]; exact (Below.refl _ _).drew
  clear hV0
  refine wpAnyH_take (i := 0) (v := ?_) rfl (by kernel_rfl) (by kernel_rfl) (by kernel_rfl) (fun _ _ _ h => h) (Or.inl ⟨by rfl, ?hy⟩) (by assumption) ?_
  case hy => (intro w hSw; have cA := hSw.cell; have lA := hSw.lt; clear hSw; go_simp; try with_reducible rfl)
  refine wpAnyH_take (i := 1) (v := ?_) rfl (by kernel_rfl) (by kernel_rfl) (by kernel_rfl) (fun _ _ _ h => h) (Or.inl ⟨by rfl, ?hy⟩) (by assumption) ?_
  case hy => (intro w hSw; have cA := hSw.cell; have lA := hSw.lt; clear hSw; go_simp; try with_reducible rfl)
  refine wpAnyH_take (i := 3) (v := ?_) rfl (by kernel_rfl) (by kernel_rfl) (by kernel_rfl) (fun _ _ _ h => h) (Or.inl ⟨by rfl, ?hy⟩) (by assumption) ?_
  case hy => (intro w hSw; have cA := hSw.cell; have lA := hSw.lt; clear hSw; go_simp; try with_reducible rfl)
  refine wpAnyH_take (i := 4) (v := ?_) rfl (by kernel_rfl) (by kernel_rfl) (by kernel_rfl) (fun _ _ _ h => h) (Or.inl ⟨by rfl, ?hy⟩) (by assumption) ?_
  case hy => (intro w hSw; have cA := hSw.cell; have lA := hSw.lt; clear hSw; go_simp; try with_reducible rfl)
  simp only [Act.put, List.getElem_toArray, List.getElem_cons_succ, List.getElem_cons_zero, List.setIfInBounds_toArray, List.set_cons_succ, List.set_cons_zero]
  refine wpAnyH_ready (rs := [2]) (by kernel_rfl) (by simp) (AllReadyH.cons rfl (fun K hK => ?_) AllReadyH.nil)
  go_simp
  refine (HN.out _ (by rw [HNe.out]; exact hb1.trans (hb0.mono hsz))).mono ?_
  rintro e V2 ⟨vx, rfl, hx, hbX⟩
  replace hb0 := hb0.trans (hbX.mono hb0.size)
  refine hK.out _ _ (kA.later hb0) (fun _ => ?_)
  clear hK K hbX
  refine wpAnyH_ready (rs := [5]) (by kernel_rfl) (by simp) (AllReadyH.cons rfl (fun K hK => ?_) AllReadyH.nil)
  go_simp
  refine (HD.out _ (by rw [HNe.out]; exact hb1.trans (hb0.mono hsz))).mono ?_
  rintro e V5 ⟨vy, rfl, hy, hbX⟩
  replace hb0 := hb0.trans (hbX.mono hb0.size)
  replace hx := hx.later hbX
  refine hK.out _ _ (kA.later hb0) (fun _ => ?_)
  clear hK K hbX
  refine wpAnyH_ready (rs := [6]) (by kernel_rfl) (by simp) (AllReadyH.cons rfl (fun K hK => ?_) AllReadyH.nil)
  go_simp
  refine hK.out _ _ (kA.later hb0) (fun _ => ?_)
  clear hK K
  refine wpAnyH_ready (rs := [7]) (by kernel_rfl) (by simp) (AllReadyH.cons rfl (fun K hK => ?_) AllReadyH.nil)
  obtain ⟨A1, c1, rfl, r1⟩ := hx
  obtain ⟨A2, c2, rfl, r2⟩ := hy
  have R1 := Lib.hid r1
  have R2 := Lib.hid r2
  have kR8 := kR.later hb0
  have cR := kR8.cell
  have fR := kR8.frozen
  have lR8 := kR8.lt
  have hb9 := hb1.trans (hb0.mono hsz)
  clear r1 r2
  go_simp
  refine hK.out _ _ (((((kA.later hb0).far (p := ⟨(N + 1), 0, none⟩) (show N ≠ (N + 1) by omega) _).far (p := ⟨(N + 1), 1, none⟩) (show N ≠ (N + 1) by omega) _).far (p := ⟨(N + 1), 2, none⟩) (show N ≠ (N + 1) by omega) _).far (p := ⟨(N + 1), 3, none⟩) (show N ≠ (N + 1) by omega) _) (fun _ => ?_)
  clear hK K
  refine wpAnyH_done (by kernel_rfl) ?_ _
  go_wp2_with fail
  refine bodyPost_cell (N + 1) 77 #[.bool false, .slice A1 (limbs n).length c1, .bool false, .slice A2 (limbs d).length c2] (.agg #[.bool false, .slice A1 (limbs n).length c1, .bool false, .slice A2 (limbs d).length c2]) ((((kR8.set_ 0 (.bool false)).set_ 1 (.slice A1 (limbs n).length c1)).set_ 2 (.bool false)).set_ 3 (.slice A2 (limbs d).length c2)) ?_ ⟨_, _, rfl, ⟨A1, c1, rfl, ((((R1.out.far (N := (N + 1)) (fun x => by rw [cR]; simp) (p := ⟨(N + 1), 0, none⟩) rfl (.bool false)).far (N := (N + 1)) (fun x => by rw [(kR8.set_ 0 (.bool false)).cell]; simp) (p := ⟨(N + 1), 1, none⟩) rfl (.slice A1 (limbs n).length c1)).far (N := (N + 1)) (fun x => by rw [((kR8.set_ 0 (.bool false)).set_ 1 (.slice A1 (limbs n).length c1)).cell]; simp) (p := ⟨(N + 1), 2, none⟩) rfl (.bool false)).far (N := (N + 1)) (fun x => by rw [(((kR8.set_ 0 (.bool false)).set_ 1 (.slice A1 (limbs n).length c1)).set_ 2 (.bool false)).cell]; simp) (p := ⟨(N + 1), 3, none⟩) rfl (.slice A2 (limbs d).length c2))⟩, ⟨A2, c2, rfl, ((((R2.out.far (N := (N + 1)) (fun x => by rw [cR]; simp) (p := ⟨(N + 1), 0, none⟩) rfl (.bool false)).far (N := (N + 1)) (fun x => by rw [(kR8.set_ 0 (.bool false)).cell]; simp) (p := ⟨(N + 1), 1, none⟩) rfl (.slice A1 (limbs n).length c1)).far (N := (N + 1)) (fun x => by rw [((kR8.set_ 0 (.bool false)).set_ 1 (.slice A1 (limbs n).length c1)).cell]; simp) (p := ⟨(N + 1), 2, none⟩) rfl (.bool false)).far (N := (N + 1)) (fun x => by rw [(((kR8.set_ 0 (.bool false)).set_ 1 (.slice A1 (limbs n).length c1)).set_ 2 (.bool false)).cell]; simp) (p := ⟨(N + 1), 3, none⟩) rfl (.slice A2 (limbs d).length c2))⟩, ?_⟩
  · intro W' hW'
    simp [results, Tryz.results73, go_sem, hW']
  · rw [HNe.out]
    exact (((hb9.setCell (show N ≤ (N + 1) by omega) _).setCell (show N ≤ (N + 1) by omega) _).setCell (show N ≤ (N + 1) by omega) _).setCell (show N ≤ (N + 1) by omega) _
end Go.Proofs.YtpklcjbdmikbdaaGreat
namespace Go.Proofs.YtpklcjbdmikbdaaGreat
set_option maxRecDepth 100000
open Go.RowKit

set_option maxHeartbeats 4000000 in
theorem sub32_any (x y p : Nat) (w : World) (hx : x < 4294967296) (hy : y ≤ x) (hp : x - y = p) : Calls Tryz.prog 115 #[.int .u32 (x : Int), .int .u32 (y : Int), .int .u32 0] w fun e w' => (∃ z : Int, e = .returned (.tuple #[.int .u32 (p : Int), .int .u32 z])) ∧ w = w' := by
  have hx2 : (x : Int) < 4294967296 := by omega
  have hs : (x : Int) - (y : Int) = (p : Int) := by omega
  have hpb : (p : Int) < 4294967296 := by omega
  clear hp
  go_enter Tryz.func115, Tryz.ntmps115
  go_upto_region 2 with fail
  iterate 33 (first | go_values | go_skip | go_guarded | go_step)
  generalize bits BinOp.or IntKind.u32 (bits BinOp.and IntKind.u32 (bits BinOp.xor IntKind.u32 (if IntKind.u32.signed = true then -1 else IntKind.u32.max) (x : Int)) (y : Int)) (bits BinOp.and IntKind.u32 (bits BinOp.xor IntKind.u32 (if IntKind.u32.signed = true then -1 else IntKind.u32.max) (bits BinOp.xor IntKind.u32 (x : Int) (y : Int))) (p : Int)) = Z
  iterate 6 (first | go_values | go_skip | go_guarded | go_step)
  (first | go_back | go_step)
  generalize bits BinOp.xor IntKind.u32 (if IntKind.u32.signed = true then -1 else IntKind.u32.max) (x : Int) = Z1
  generalize bits BinOp.xor IntKind.u32 (if IntKind.u32.signed = true then -1 else IntKind.u32.max) (bits BinOp.xor IntKind.u32 (x : Int) (y : Int)) = Z2
  generalize bits BinOp.xor IntKind.u32 (x : Int) (y : Int) = Z3
  generalize bits BinOp.and IntKind.u32 Z1 (y : Int) = Z4
  generalize bits BinOp.and IntKind.u32 Z2 (p : Int) = Z5
  go_wp2_with fail
  go_ret2
  exact ⟨⟨_, rfl⟩, rfl⟩
set_option maxHeartbeats 8000000 in
theorem minus_none (A B : Option Addr) (ca cb : Nat) (w : World) : Calls Tryz.prog 96 #[.slice A 0 ca, .slice B 0 cb] w (TrimR w 0) := by
  have hmk : ∀ w, (Instr.makeSlice 73 (.int .i64 0) (.int .i64 0)).run Tryz.prog w = .ok (.slice (some ⟨w.heap.size, 0, none⟩) 0 0) (w.alloc (.cells #[] 104)) := fun w => make_u32 0 (by omega) w
  have hb1 : Below w.heap.size w (w.alloc (.cells #[] 104)) := (Below.refl _ _).alloc (Nat.le_refl _) _
  go_enter Tryz.func96, Tryz.ntmps96
  go_upto_region 2 with fail
  clear hmk
  revert hb1
  generalize w.alloc (.cells #[] 104) = w2
  generalize hNe : w.heap.size = g
  intro hb1
  have HNe := Lib.hid hNe
  have hsz := hb1.size
  rw [hNe] at hsz
  clear hNe
  have HT := Lib.hid (trim_any (some ⟨g, 0, none⟩) 0 0 [] w2 ⟨rfl, fun h => absurd h (Nat.lt_irrefl _)⟩ (fun _ h => by cases h) (by omega) (Nat.le_refl _))
  go_wp2_with fail
  go_loopw [14, 6] (fun i c wr => i = .int .i64 0 ∧ c = .int .u32 0 ∧ wr = w2) (fun i _ _ => 0)
  case atStart => exact ⟨rfl, rfl, rfl⟩
  case round =>
    obtain ⟨rfl, rfl, rfl⟩ := hrel
    go_wp2_with fail
    refine HT.out.mono ?_
    rintro e w6 ⟨v6, rfl, hv6, hb6⟩
    go_wp2_with fail
    go_ret
    exact ⟨v6, rfl, hv6, by rw [HNe.out]; exact hb1.trans (hb6.mono hsz)⟩
set_option maxHeartbeats 8000000 in
theorem minus_both (ga gb ca cb x y : Nat) (w : World) (hga : ga < w.heap.size) (hgb : gb < w.heap.size) (qa : w.cell? ⟨ga, 0, none⟩ = some (.int .u32 (x : Int))) (qb : w.cell? ⟨gb, 0, none⟩ = some (.int .u32 (y : Int))) (hx : x < 4294967296) (hy : y ≤ x) :
    Calls Tryz.prog 96 #[.slice (some ⟨ga, 0, none⟩) 1 ca, .slice (some ⟨gb, 0, none⟩) 1 cb] w (TrimR w (x - y)) := by
  have hmk : ∀ w, (Instr.makeSlice 73 (.int .i64 1) (.int .i64 1)).run Tryz.prog w = .ok (.slice (some ⟨w.heap.size, 0, none⟩) 1 1) (w.alloc (.cells #[.int .u32 0] 104)) := fun w => make_u32 1 (by omega) w
  obtain ⟨p, hp⟩ : ∃ p, x - y = p := ⟨_, rfl⟩
  have hpb : p < 4294967296 := by omega
  have HA : Hid (∀ w, Calls Tryz.prog 115 #[.int .u32 (x : Int), .int .u32 (y : Int), .int .u32 0] w fun e w' => (∃ z : Int, e = .returned (.tuple #[.int .u32 (p : Int), .int .u32 z])) ∧ w = w') := fun w => sub32_any x y p w hx hy hp
  have HV : Hid (Limb [p] ∧ val [p] = p) := ⟨fun a ha => by simp at ha; omega, by simp [val]⟩
  rw [hp]
  clear hp
  have kO := Blk.new w 104 #[.int .u32 0]
  have hb1 : Below w.heap.size w (w.alloc (.cells #[.int .u32 0] 104)) := (Below.refl _ _).alloc (Nat.le_refl _) _
  go_enter Tryz.func96, Tryz.ntmps96
  go_upto_region 2 with fail
  clear hmk
  have HALL := And.intro kO hb1
  clear kO hb1
  revert HALL
  generalize w.alloc (.cells #[.int .u32 0] 104) = w2
  generalize hNe : w.heap.size = g
  intro HALL
  obtain ⟨kO, hb1⟩ := HALL
  have HNe := Lib.hid hNe
  rw [hNe] at hga hgb
  clear hNe
  have hO := kO.lt
  have hga2 : ga < w2.heap.size := by omega
  have hgb2 : gb < w2.heap.size := by omega
  have qb2 := (hb1.cell (p := ⟨gb, 0, none⟩) hgb).trans qb
  clear qb
  have qa2 := (hb1.cell (p := ⟨ga, 0, none⟩) hga).trans qa
  clear qa
  go_wp2_with fail
  go_loopw [14, 6] (fun i c wr => ((i = .int .i64 0 ∧ c = .int .u32 0 ∧ Blk wr g 104 #[.int .u32 0]) ∨ (i = .int .i64 1 ∧ Blk wr g 104 #[.int .u32 (p : Int)])) ∧ w2.grownBy wr (some g)) (fun i _ _ => 1 - (intOf i).toNat)
  case atStart => exact ⟨.inl ⟨rfl, rfl, kO⟩, World.grownBy.refl _ _⟩
  case round =>
    obtain ⟨hcase, hgr⟩ := hrel
    obtain ⟨wq, hwq⟩ : ∃ x, x = wr := ⟨_, rfl⟩
    subst hwq
    rcases hcase with ⟨rfl, rfl, kW⟩ | ⟨rfl, kW⟩
    · have qa3 := (hgr.cell_far ⟨ga, 0, none⟩ hga2 (by simp; omega)).trans qa2
      have qb3 := (hgr.cell_far ⟨gb, 0, none⟩ hgb2 (by simp; omega)).trans qb2
      have lW := kW.lt
      have hga3 : ga < wq.heap.size := by omega
      have hgb3 : gb < wq.heap.size := by omega
      have cW := kW.cell
      have fW := kW.frozen
      have kW5 := kW.set_ 0 (.int .u32 (p : Int))
      have hgr5 := only_setCell hgr (p := ⟨g, 0, none⟩) (.inl rfl) (.int .u32 (p : Int))
      go_wp2_with fail
      refine (HA.out _).mono ?_
      rintro e w5 ⟨⟨z, rfl⟩, rfl⟩
      go_wp2_with fail
      exact ⟨⟨.inr ⟨rfl, kW5⟩, hgr5⟩, by simp [intOf]⟩
    · have lW := kW.lt
      have HT := Lib.hid (trim_any (some ⟨g, 0, none⟩) 1 1 [p] _ (rowU_of (l := [p]) kW) HV.out.1 (by omega) (Nat.le_refl _))
      rw [HV.out.2] at HT
      have hbw : Below g w wq := hb1.trans (below_of_only hgr (Nat.le_refl _) (by omega))
      clear kW kO
      go_wp2_with fail
      refine HT.out.mono ?_
      rintro e w6 ⟨v6, rfl, hv6, hb6⟩
      go_wp2_with fail
      go_ret
      exact ⟨v6, rfl, hv6, by rw [HNe.out]; exact hbw.trans (hb6.mono (by omega))⟩
set_option maxHeartbeats 8000000 in
theorem minus_left (ga : Nat) (B : Option Addr) (ca cb x y : Nat) (hye : y = 0) (w : World) (hga : ga < w.heap.size) (qa : w.cell? ⟨ga, 0, none⟩ = some (.int .u32 (x : Int))) (hx : x < 4294967296) :
    Calls Tryz.prog 96 #[.slice (some ⟨ga, 0, none⟩) 1 ca, .slice B 0 cb] w (TrimR w (x - y)) := by
  have hy : y ≤ x := by omega
  have HY0 : Hid ((0 : Int) = (y : Int)) := by show _ = _; omega
  have hmk : ∀ w, (Instr.makeSlice 73 (.int .i64 1) (.int .i64 1)).run Tryz.prog w = .ok (.slice (some ⟨w.heap.size, 0, none⟩) 1 1) (w.alloc (.cells #[.int .u32 0] 104)) := fun w => make_u32 1 (by omega) w
  obtain ⟨p, hp⟩ : ∃ p, x - y = p := ⟨_, rfl⟩
  have hpb : p < 4294967296 := by omega
  have HA : Hid (∀ w, Calls Tryz.prog 115 #[.int .u32 (x : Int), .int .u32 (y : Int), .int .u32 0] w fun e w' => (∃ z : Int, e = .returned (.tuple #[.int .u32 (p : Int), .int .u32 z])) ∧ w = w') := fun w => sub32_any x y p w hx hy hp
  have HV : Hid (Limb [p] ∧ val [p] = p) := ⟨fun a ha => by simp at ha; omega, by simp [val]⟩
  rw [hp]
  rw [← HY0.out] at HA
  clear hp
  have kO := Blk.new w 104 #[.int .u32 0]
  have hb1 : Below w.heap.size w (w.alloc (.cells #[.int .u32 0] 104)) := (Below.refl _ _).alloc (Nat.le_refl _) _
  go_enter Tryz.func96, Tryz.ntmps96
  go_upto_region 2 with fail
  clear hmk
  have HALL := And.intro kO hb1
  clear kO hb1
  revert HALL
  generalize w.alloc (.cells #[.int .u32 0] 104) = w2
  generalize hNe : w.heap.size = g
  intro HALL
  obtain ⟨kO, hb1⟩ := HALL
  have HNe := Lib.hid hNe
  rw [hNe] at hga
  clear hNe
  have hO := kO.lt
  have hga2 : ga < w2.heap.size := by omega
  have qa2 := (hb1.cell (p := ⟨ga, 0, none⟩) hga).trans qa
  clear qa
  go_wp2_with fail
  go_loopw [14, 6] (fun i c wr => ((i = .int .i64 0 ∧ c = .int .u32 0 ∧ Blk wr g 104 #[.int .u32 0]) ∨ (i = .int .i64 1 ∧ Blk wr g 104 #[.int .u32 (p : Int)])) ∧ w2.grownBy wr (some g)) (fun i _ _ => 1 - (intOf i).toNat)
  case atStart => exact ⟨.inl ⟨rfl, rfl, kO⟩, World.grownBy.refl _ _⟩
  case round =>
    obtain ⟨hcase, hgr⟩ := hrel
    obtain ⟨wq, hwq⟩ : ∃ x, x = wr := ⟨_, rfl⟩
    subst hwq
    rcases hcase with ⟨rfl, rfl, kW⟩ | ⟨rfl, kW⟩
    · have qa3 := (hgr.cell_far ⟨ga, 0, none⟩ hga2 (by simp; omega)).trans qa2
      have lW := kW.lt
      have hga3 : ga < wq.heap.size := by omega
      have cW := kW.cell
      have fW := kW.frozen
      have kW5 := kW.set_ 0 (.int .u32 (p : Int))
      have hgr5 := only_setCell hgr (p := ⟨g, 0, none⟩) (.inl rfl) (.int .u32 (p : Int))
      go_wp2_with fail
      refine (HA.out _).mono ?_
      rintro e w5 ⟨⟨z, rfl⟩, rfl⟩
      go_wp2_with fail
      exact ⟨⟨.inr ⟨rfl, kW5⟩, hgr5⟩, by simp [intOf]⟩
    · have lW := kW.lt
      have HT := Lib.hid (trim_any (some ⟨g, 0, none⟩) 1 1 [p] _ (rowU_of (l := [p]) kW) HV.out.1 (by omega) (Nat.le_refl _))
      rw [HV.out.2] at HT
      have hbw : Below g w wq := hb1.trans (below_of_only hgr (Nat.le_refl _) (by omega))
      clear kW kO
      go_wp2_with fail
      refine HT.out.mono ?_
      rintro e w6 ⟨v6, rfl, hv6, hb6⟩
      go_wp2_with fail
      go_ret
      exact ⟨v6, rfl, hv6, by rw [HNe.out]; exact hbw.trans (hb6.mono (by omega))⟩
/-- The difference of two sizes. -/
theorem minus_any (va vb : Value) (a b : Nat) (w : World) (ha : MagW w va a) (hb : MagW w vb b) (ha2 : a < 4294967296) (hba : b ≤ a) : Calls Tryz.prog 96 #[va, vb] w (TrimR w (a - b)) := by
  rcases Nat.eq_zero_or_pos a with rfl | h0
  · obtain rfl : b = 0 := by omega
    obtain ⟨A, c, rfl⟩ := mag_zero ha
    obtain ⟨B, d, rfl⟩ := mag_zero hb
    exact minus_none A B c d w
  · obtain ⟨g, c, rfl, hg, hc⟩ := mag_one ha h0 ha2
    rcases Nat.eq_zero_or_pos b with rfl | h1
    · obtain ⟨B, d, rfl⟩ := mag_zero hb
      exact minus_left g B c d a 0 rfl w hg hc ha2
    · obtain ⟨g2, d, rfl, hg2, hc2⟩ := mag_one hb h1 (by omega)
      exact minus_both g g2 c d a b w hg hg2 hc hc2 ha2 hba
set_option maxHeartbeats 8000000 in
theorem wsize_both (ga gb ca cb x y : Nat) (w : World) (hga : ga < w.heap.size) (hgb : gb < w.heap.size) (qa : w.cell? ⟨ga, 0, none⟩ = some (.int .u32 (x : Int))) (qb : w.cell? ⟨gb, 0, none⟩ = some (.int .u32 (y : Int))) :
    Calls Tryz.prog 95 #[.slice (some ⟨ga, 0, none⟩) 1 ca, .slice (some ⟨gb, 0, none⟩) 1 cb] w fun e w' => e = .returned (.int .i64 (cmpN x y)) ∧ Below w.heap.size w w' := by
  rcases Nat.lt_trichotomy x y with h | h | h
  · have HE : Hid (cmpN x y = -1) := by show _ = _; unfold cmpN; rw [if_pos h]
    have d0 : ((x : Int) != (y : Int)) = true := by simp; omega
    have d0' : ¬ x = y := by omega
    have d1 : decide ((x : Int) < (y : Int)) = true := decide_eq_true (by omega)
    have d1' : decide (x < y) = true := decide_eq_true h
    clear h
    go_enter Tryz.func95, Tryz.ntmps95
    go_wp2_with fail
    go_loopw [5] (fun i wr => (i = .int .i64 0 ∨ False) ∧ Below w.heap.size w wr) (fun i _ => (intOf i + 1).toNat)
    case atStart => exact ⟨.inl (by go_num), Below.refl _ _⟩
    case round =>
      obtain ⟨hcase, hb⟩ := hrel
      obtain ⟨wq, hwq⟩ : ∃ x, x = wr := ⟨_, rfl⟩
      subst hwq
      have qa2 := (hb.cell (p := ⟨ga, 0, none⟩) hga).trans qa
      have qb2 := (hb.cell (p := ⟨gb, 0, none⟩) hgb).trans qb
      have hga2 := Nat.lt_of_lt_of_le hga hb.size
      have hgb2 := Nat.lt_of_lt_of_le hgb hb.size
      rcases hcase with rfl | hf
      · go_wp2_with fail
        go_region
        go_wp2_with fail
        go_region
        go_wp2_with fail
        go_ret
        exact ⟨by rw [HE.out] <;> rfl, hb.drew.drew⟩
      · exact hf.elim
  · have HE : Hid (cmpN x y = 0) := by show _ = _; unfold cmpN; rw [if_neg (by omega), if_neg (by omega)]
    subst h
    have d0 : ((x : Int) != (x : Int)) = false := by simp
    go_enter Tryz.func95, Tryz.ntmps95
    go_wp2_with fail
    go_loopw [5] (fun i wr => (i = .int .i64 0 ∨ i = .int .i64 (-1)) ∧ Below w.heap.size w wr) (fun i _ => (intOf i + 1).toNat)
    case atStart => exact ⟨.inl (by go_num), Below.refl _ _⟩
    case round =>
      obtain ⟨hcase, hb⟩ := hrel
      obtain ⟨wq, hwq⟩ : ∃ x, x = wr := ⟨_, rfl⟩
      subst hwq
      have qa2 := (hb.cell (p := ⟨ga, 0, none⟩) hga).trans qa
      have qb2 := (hb.cell (p := ⟨gb, 0, none⟩) hgb).trans qb
      have hga2 := Nat.lt_of_lt_of_le hga hb.size
      have hgb2 := Nat.lt_of_lt_of_le hgb hb.size
      rcases hcase with rfl | rfl
      · go_wp2_with fail
        go_region
        go_wp2_with fail
        go_roundw
        case rel => exact ⟨.inr (by first | rfl | go_num), hb.drew⟩
        case measure => simp [intOf]
      · go_wp2_with fail
        go_ret
        exact ⟨by rw [HE.out] <;> rfl, hb⟩
  · have HE : Hid (cmpN x y = 1) := by show _ = _; unfold cmpN; rw [if_neg (by omega), if_pos h]
    have d0 : ((x : Int) != (y : Int)) = true := by simp; omega
    have d0' : ¬ x = y := by omega
    have d1 : decide ((x : Int) < (y : Int)) = false := decide_eq_false (by omega)
    have d1' : decide (x < y) = false := decide_eq_false (by omega)
    clear h
    go_enter Tryz.func95, Tryz.ntmps95
    go_wp2_with fail
    go_loopw [5] (fun i wr => (i = .int .i64 0 ∨ False) ∧ Below w.heap.size w wr) (fun i _ => (intOf i + 1).toNat)
    case atStart => exact ⟨.inl (by go_num), Below.refl _ _⟩
    case round =>
      obtain ⟨hcase, hb⟩ := hrel
      obtain ⟨wq, hwq⟩ : ∃ x, x = wr := ⟨_, rfl⟩
      subst hwq
      have qa2 := (hb.cell (p := ⟨ga, 0, none⟩) hga).trans qa
      have qb2 := (hb.cell (p := ⟨gb, 0, none⟩) hgb).trans qb
      have hga2 := Nat.lt_of_lt_of_le hga hb.size
      have hgb2 := Nat.lt_of_lt_of_le hgb hb.size
      rcases hcase with rfl | hf
      · go_wp2_with fail
        go_region
        go_wp2_with fail
        go_region
        go_wp2_with fail
        go_ret
        exact ⟨by rw [HE.out] <;> rfl, hb.drew.drew⟩
      · exact hf.elim
set_option maxHeartbeats 4000000 in
theorem wsize_zz (A B : Option Addr) (ca cb : Nat) (w : World) : Calls Tryz.prog 95 #[.slice A 0 ca, .slice B 0 cb] w fun e w' => e = .returned (.int .i64 (0)) ∧ Below w.heap.size w w' := by
  go_enter Tryz.func95, Tryz.ntmps95
  go_wp2_with fail
  go_loopw [5] (fun i wr => i = .int .i64 (-1) ∧ wr = w) (fun i _ => 0)
  case atStart => exact ⟨by go_num, rfl⟩
  case round =>
    obtain ⟨rfl, rfl⟩ := hrel
    go_wp2_with fail
    go_ret
    exact ⟨rfl, Below.refl _ _⟩
set_option maxHeartbeats 4000000 in
theorem wsize_zp (A B : Option Addr) (ca cb : Nat) (w : World) : Calls Tryz.prog 95 #[.slice A 0 ca, .slice B 1 cb] w fun e w' => e = .returned (.int .i64 (-1)) ∧ Below w.heap.size w w' := by
  go_enter Tryz.func95, Tryz.ntmps95
  go_wp2_with fail
  go_ret
  exact ⟨rfl, Below.refl _ _⟩
set_option maxHeartbeats 4000000 in
theorem wsize_pz (A B : Option Addr) (ca cb : Nat) (w : World) : Calls Tryz.prog 95 #[.slice A 1 ca, .slice B 0 cb] w fun e w' => e = .returned (.int .i64 (1)) ∧ Below w.heap.size w w' := by
  go_enter Tryz.func95, Tryz.ntmps95
  go_wp2_with fail
  go_ret
  exact ⟨rfl, Below.refl _ _⟩
/-- Comparing two sizes. -/
theorem wsize_any (va vb : Value) (a b : Nat) (w : World) (ha : MagW w va a) (hb : MagW w vb b) (ha2 : a < 4294967296) (hb2 : b < 4294967296) : Calls Tryz.prog 95 #[va, vb] w fun e w' => e = .returned (.int .i64 (cmpN a b)) ∧ Below w.heap.size w w' := by
  rcases Nat.eq_zero_or_pos a with rfl | h0
  · obtain ⟨A, c, rfl⟩ := mag_zero ha
    rcases Nat.eq_zero_or_pos b with rfl | h1
    · obtain ⟨B, d, rfl⟩ := mag_zero hb
      exact wsize_zz A B c d w
    · obtain ⟨g2, d, rfl, hg2, hc2⟩ := mag_one hb h1 hb2
      rw [show cmpN 0 b = -1 by unfold cmpN; rw [if_pos h1]]
      exact wsize_zp A _ c d w
  · obtain ⟨g, c, rfl, hg, hc⟩ := mag_one ha h0 ha2
    rcases Nat.eq_zero_or_pos b with rfl | h1
    · obtain ⟨B, d, rfl⟩ := mag_zero hb
      rw [show cmpN a 0 = 1 by unfold cmpN; rw [if_neg (by omega), if_pos h0]]
      exact wsize_pz _ B c d w
    · obtain ⟨g2, d, rfl, hg2, hc2⟩ := mag_one hb h1 hb2
      exact wsize_both g g2 c d a b w hg hg2 hc hc2
end Go.Proofs.YtpklcjbdmikbdaaGreat
namespace Go.Proofs.YtpklcjbdmikbdaaGreat
set_option maxRecDepth 100000
open Go.RowKit

theorem MagW.form {w : World} {v : Value} {k : Nat} (h : MagW w v k) : ∃ A n c, v = .slice A n c := by
  obtain ⟨A, c, e, _⟩ := h
  exact ⟨A, _, c, e⟩
theorem MagW.len {w : World} {A : Option Addr} {n c k : Nat} (h : MagW w (.slice A n c) k) : n = (limbs k).length := by
  obtain ⟨_, _, e, _⟩ := h
  injection e
theorem MagW.lenpos {w : World} {A : Option Addr} {n c k : Nat} (h : MagW w (.slice A n c) k) (h0 : 0 < k) : 0 < n := by
  rw [h.len]
  rcases Nat.eq_zero_or_pos (limbs k).length with h1 | h1
  · have := limbs_nil.1 h1; omega
  · exact h1
theorem MagW.farB {w : World} {v : Value} {k g t : Nat} {b : Bool} {r : List Value} (h : MagW w v k) (hk : Blk w g t (Value.bool b :: r).toArray) {p : Addr} (hp : p.block = g) (u : Value) : MagW (w.setCell p u) v k := by
  obtain ⟨A, c, rfl, hr⟩ := h
  exact ⟨A, c, rfl, hr.far (N := g) (fun x => by rw [hk.cell]; simp) hp u⟩
set_option maxHeartbeats 4000000 in
theorem made_true (A : Option Addr) (n c : Nat) (w : World) (hn : 0 < n) : Calls Tryz.prog 60 #[.bool true, .slice A n c] w fun e w' => e = .returned (.agg #[.bool true, .slice A n c]) ∧ Below w.heap.size w w' := by
  have hd : decide ((n : Int) > 0) = true := decide_eq_true (by omega)
  go_enter Tryz.func60, Tryz.ntmps60
  go_wp2_with fail
  have hb2 : Below w.heap.size w (w.alloc (.cells #[.bool true, .slice A n c] 75)) := (Below.refl _ _).alloc (Nat.le_refl _) _
  refine bodyPost_cell w.heap.size 75 #[.bool true, .slice A n c] (.agg #[.bool true, .slice A n c]) (Blk.new w 75 _) ?_ ⟨rfl, hb2⟩
  intro W' hW'
  simp [results, Tryz.results60, go_sem, hW']
set_option maxHeartbeats 4000000 in
theorem made_null (A : Option Addr) (c : Nat) (w : World) : Calls Tryz.prog 60 #[.bool true, .slice A 0 c] w fun e w' => e = .returned (.agg #[.bool false, .slice A 0 c]) ∧ Below w.heap.size w w' := by
  go_enter Tryz.func60, Tryz.ntmps60
  go_wp2_with fail
  have hb2 : Below w.heap.size w (w.alloc (.cells #[.bool false, .slice A 0 c] 75)) := (Below.refl _ _).alloc (Nat.le_refl _) _
  refine bodyPost_cell w.heap.size 75 #[.bool false, .slice A 0 c] (.agg #[.bool false, .slice A 0 c]) (Blk.new w 75 _) ?_ ⟨rfl, hb2⟩
  intro W' hW'
  simp [results, Tryz.results60, go_sem, hW']
set_option maxHeartbeats 8000000 in
theorem negI_pos (A : Option Addr) (n c : Nat) (hn : 0 < n) (w : World) : Calls Tryz.prog 56 #[.agg #[.bool false, .slice A n c]] w fun e w' => e = .returned (.agg #[.bool true, .slice A n c]) ∧ Below w.heap.size w w' := by
  have HM : Hid (∀ V, Calls Tryz.prog 60 #[.bool true, .slice A n c] V fun e w' => e = .returned (.agg #[.bool true, .slice A n c]) ∧ Below V.heap.size V w') := fun V => made_true A n c V hn
  have e1 : (w.alloc (.cells #[.bool false, .slice A n c] 75)).heap.size = w.heap.size + 1 := by simp
  have kZ := (Blk.new w 75 #[.bool false, .slice A n c]).alloc (.cells #[.bool false, .slice none 0 0] 75)
  have kR := Blk.new (w.alloc (.cells #[.bool false, .slice A n c] 75)) 75 #[.bool false, .slice none 0 0]
  rw [e1] at kR
  have hb1 : Below w.heap.size w ((w.alloc (.cells #[.bool false, .slice A n c] 75)).alloc (.cells #[.bool false, .slice none 0 0] 75)) := ((Below.refl _ _).alloc (Nat.le_refl _) _).alloc (by simp) _
  clear e1
  go_enter Tryz.func56, Tryz.ntmps56
  go_upto_region 1 with fail
  have HALL := And.intro kZ (And.intro kR hb1)
  clear kZ kR hb1
  revert HALL
  generalize (w.alloc (.cells #[.bool false, .slice A n c] 75)).alloc (.cells #[.bool false, .slice none 0 0] 75) = w1
  generalize hNe : w.heap.size = N
  intro HALL
  obtain ⟨kZ, kR, hb1⟩ := HALL
  have HNe := Lib.hid hNe
  have hsz := hb1.size
  rw [hNe] at hsz
  clear hNe
  have cZ := kZ.cell
  have lZ := kZ.lt
  go_wp2_with fail
  refine (HM.out _).mono ?_
  rintro e w2 ⟨rfl, hb2⟩
  replace kR := kR.later hb2
  have hb := hb1.trans (hb2.mono hsz)
  have cR := kR.cell
  have fR := kR.frozen
  have lR := kR.lt
  have hR1 : Blk _ (N + 1) 75 #[.bool true, .slice none 0 0] := kR.set_ 0 (.bool true)
  have hR2 : Blk _ (N + 1) 75 #[.bool true, .slice A n c] := hR1.set_ 1 (.slice A n c)
  have HB := Lib.hid ((hb.setCell (p := ⟨N + 1, 0, none⟩) (show N ≤ N + 1 by omega) (.bool true)).setCell (p := ⟨N + 1, 1, none⟩) (show N ≤ N + 1 by omega) (.slice A n c))
  have HR2 := Lib.hid hR2
  clear hR1 hR2 kZ kR hb hb1 hb2 HM cZ lZ
  go_wp2_with fail
  refine bodyPost_cell (N + 1) 75 #[.bool true, .slice A n c] (.agg #[.bool true, .slice A n c]) HR2.out ?_ ⟨rfl, by rw [HNe.out]; exact HB.out⟩
  intro W' hW'
  simp [results, Tryz.results56, go_sem, hW']
set_option maxHeartbeats 8000000 in
theorem negI_zero (A : Option Addr) (c : Nat) (w : World) : Calls Tryz.prog 56 #[.agg #[.bool false, .slice A 0 c]] w fun e w' => e = .returned (.agg #[.bool false, .slice A 0 c]) ∧ Below w.heap.size w w' := by
  have HM : Hid (∀ V, Calls Tryz.prog 60 #[.bool true, .slice A 0 c] V fun e w' => e = .returned (.agg #[.bool false, .slice A 0 c]) ∧ Below V.heap.size V w') := fun V => made_null A c V
  have e1 : (w.alloc (.cells #[.bool false, .slice A 0 c] 75)).heap.size = w.heap.size + 1 := by simp
  have kZ := (Blk.new w 75 #[.bool false, .slice A 0 c]).alloc (.cells #[.bool false, .slice none 0 0] 75)
  have kR := Blk.new (w.alloc (.cells #[.bool false, .slice A 0 c] 75)) 75 #[.bool false, .slice none 0 0]
  rw [e1] at kR
  have hb1 : Below w.heap.size w ((w.alloc (.cells #[.bool false, .slice A 0 c] 75)).alloc (.cells #[.bool false, .slice none 0 0] 75)) := ((Below.refl _ _).alloc (Nat.le_refl _) _).alloc (by simp) _
  clear e1
  go_enter Tryz.func56, Tryz.ntmps56
  go_upto_region 1 with fail
  have HALL := And.intro kZ (And.intro kR hb1)
  clear kZ kR hb1
  revert HALL
  generalize (w.alloc (.cells #[.bool false, .slice A 0 c] 75)).alloc (.cells #[.bool false, .slice none 0 0] 75) = w1
  generalize hNe : w.heap.size = N
  intro HALL
  obtain ⟨kZ, kR, hb1⟩ := HALL
  have HNe := Lib.hid hNe
  have hsz := hb1.size
  rw [hNe] at hsz
  clear hNe
  have cZ := kZ.cell
  have lZ := kZ.lt
  go_wp2_with fail
  refine (HM.out _).mono ?_
  rintro e w2 ⟨rfl, hb2⟩
  replace kR := kR.later hb2
  have hb := hb1.trans (hb2.mono hsz)
  have cR := kR.cell
  have fR := kR.frozen
  have lR := kR.lt
  have hR1 : Blk _ (N + 1) 75 #[.bool false, .slice none 0 0] := kR.set_ 0 (.bool false)
  have hR2 : Blk _ (N + 1) 75 #[.bool false, .slice A 0 c] := hR1.set_ 1 (.slice A 0 c)
  have HB := Lib.hid ((hb.setCell (p := ⟨N + 1, 0, none⟩) (show N ≤ N + 1 by omega) (.bool false)).setCell (p := ⟨N + 1, 1, none⟩) (show N ≤ N + 1 by omega) (.slice A 0 c))
  have HR2 := Lib.hid hR2
  clear hR1 hR2 kZ kR hb hb1 hb2 HM cZ lZ
  go_wp2_with fail
  refine bodyPost_cell (N + 1) 75 #[.bool false, .slice A 0 c] (.agg #[.bool false, .slice A 0 c]) HR2.out ?_ ⟨rfl, by rw [HNe.out]; exact HB.out⟩
  intro W' hW'
  simp [results, Tryz.results56, go_sem, hW']
set_option maxHeartbeats 4000000 in
theorem signI_pos (A : Option Addr) (n c : Nat) (hn : 0 < n) (w : World) : Calls Tryz.prog 102 #[.agg #[.bool false, .slice A n c]] w fun e w' => e = .returned (.int .i64 1) ∧ Below w.heap.size w w' := by
  have hd : ((n : Int) == 0) = false := by simp; omega
  have hd' : ¬ n = 0 := by omega
  have hb1 : Below w.heap.size w (w.alloc (.cells #[.bool false, .slice A n c] 75)) := (Below.refl _ _).alloc (Nat.le_refl _) _
  have k1 := Blk.new w 75 #[.bool false, .slice A n c]
  have cA := k1.cell
  have lA := k1.lt
  go_enter Tryz.func102, Tryz.ntmps102
  go_wp2_with fail
  go_ret
  exact ⟨rfl, hb1⟩
set_option maxHeartbeats 4000000 in
theorem signI_neg (A : Option Addr) (n c : Nat) (hn : 0 < n) (w : World) : Calls Tryz.prog 102 #[.agg #[.bool true, .slice A n c]] w fun e w' => e = .returned (.int .i64 (-1)) ∧ Below w.heap.size w w' := by
  have hd : ((n : Int) == 0) = false := by simp; omega
  have hd' : ¬ n = 0 := by omega
  have hb1 : Below w.heap.size w (w.alloc (.cells #[.bool true, .slice A n c] 75)) := (Below.refl _ _).alloc (Nat.le_refl _) _
  have k1 := Blk.new w 75 #[.bool true, .slice A n c]
  have cA := k1.cell
  have lA := k1.lt
  go_enter Tryz.func102, Tryz.ntmps102
  go_wp2_with fail
  go_ret
  exact ⟨rfl, hb1⟩
set_option maxHeartbeats 4000000 in
theorem signI_zero (A : Option Addr) (c : Nat) (w : World) : Calls Tryz.prog 102 #[.agg #[.bool false, .slice A 0 c]] w fun e w' => e = .returned (.int .i64 0) ∧ Below w.heap.size w w' := by
  have hb1 : Below w.heap.size w (w.alloc (.cells #[.bool false, .slice A 0 c] 75)) := (Below.refl _ _).alloc (Nat.le_refl _) _
  have k1 := Blk.new w 75 #[.bool false, .slice A 0 c]
  have cA := k1.cell
  have lA := k1.lt
  go_enter Tryz.func102, Tryz.ntmps102
  go_wp2_with fail
  go_ret
  exact ⟨rfl, hb1⟩
/-- What is returned: a difference. -/
def DifI (w : World) (a b : Nat) (e : Ending) (w' : World) : Prop := ∃ v, e = .returned (.agg #[.bool (decide (a < b)), v]) ∧ MagW w' v (distN a b) ∧ Below w.heap.size w w'
set_option maxHeartbeats 16000000 in
theorem addI_ge (va vb : Value) (a b : Nat) (w : World) (ha : MagW w va a) (hb : MagW w vb b) (ha2 : a < 4294967296) (hb2 : b < 4294967296) (hab : b ≤ a) : Calls Tryz.prog 117 #[.agg #[.bool false, va], .agg #[.bool true, vb]] w fun e w' => ∃ v, e = .returned (.agg #[.bool false, v]) ∧ MagW w' v (a - b) ∧ Below w.heap.size w w' := by
  have HP : Hid (∀ V, Below w.heap.size w V → Calls Tryz.prog 96 #[va, vb] V (TrimR V (a - b))) := fun V h => minus_any va vb a b V (ha.later h) (hb.later h) ha2 hab
  have HS : Hid (∀ V, Below w.heap.size w V → Calls Tryz.prog 95 #[va, vb] V fun e w' => e = .returned (.int .i64 (cmpN a b)) ∧ Below V.heap.size V w') := fun V h => wsize_any va vb a b V (ha.later h) (hb.later h) ha2 hb2
  obtain ⟨A, n, ca, rfl⟩ := ha.form
  obtain ⟨B, m, cb, rfl⟩ := hb.form
  have hcv : 0 ≤ cmpN a b := by unfold cmpN; split <;> (try split) <;> omega
  generalize cmpN a b = cv at HS hcv
  have hdc : decide (cv ≥ 0) = true := decide_eq_true hcv
  have hdc' : decide (0 ≤ cv) = true := decide_eq_true hcv
  obtain ⟨p, hp⟩ : ∃ p, p = (a - b) := ⟨_, rfl⟩

  rw [← hp] at HP ⊢
  clear hp ha hb hab ha2 hb2
  have e3 : ((w.alloc (.cells #[.bool false, .slice A n ca] 75)).alloc (.cells #[.bool true, .slice B m cb] 75)).heap.size = w.heap.size + 2 := by simp
  have e1 : (w.alloc (.cells #[.bool false, .slice A n ca] 75)).heap.size = w.heap.size + 1 := by simp
  have kA := ((Blk.new w 75 #[.bool false, .slice A n ca]).alloc (.cells #[.bool true, .slice B m cb] 75)).alloc (.cells #[.bool false, .slice none 0 0] 75)
  have kB := (Blk.new (w.alloc (.cells #[.bool false, .slice A n ca] 75)) 75 #[.bool true, .slice B m cb]).alloc (.cells #[.bool false, .slice none 0 0] 75)
  have kR := Blk.new ((w.alloc (.cells #[.bool false, .slice A n ca] 75)).alloc (.cells #[.bool true, .slice B m cb] 75)) 75 #[.bool false, .slice none 0 0]
  rw [e1] at kB
  rw [e3] at kR
  have hb1 : Below w.heap.size w (((w.alloc (.cells #[.bool false, .slice A n ca] 75)).alloc (.cells #[.bool true, .slice B m cb] 75)).alloc (.cells #[.bool false, .slice none 0 0] 75)) :=
    (((Below.refl _ _).alloc (Nat.le_refl _) _).alloc (by simp) _).alloc (by simp; omega) _
  clear e1 e3
  go_enter Tryz.func117, Tryz.ntmps117
  go_upto_region 1 with fail
  revert kA kB kR hb1
  generalize ((w.alloc (.cells #[.bool false, .slice A n ca] 75)).alloc (.cells #[.bool true, .slice B m cb] 75)).alloc (.cells #[.bool false, .slice none 0 0] 75) = wq
  generalize hNe : w.heap.size = N
  intro kA kB kR hb1
  have HNe := Lib.hid hNe
  have hsz := hb1.size
  rw [hNe] at hsz
  clear hNe
  have lR := kR.lt
  have cA := kA.cell
  have lA := kA.lt
  have cB := kB.cell
  have lB := kB.lt
  have hbe : ((false : Bool) == true) = false := rfl
  go_wp2_with fail
  refine (HS.out wq (by rw [HNe.out]; exact hb1)).mono ?_
  rintro e w9 ⟨rfl, hb9⟩
  replace kA := kA.later hb9
  replace kB := kB.later hb9
  replace kR := kR.later hb9
  replace hb1 := hb1.trans (hb9.mono hsz)
  replace hsz := Nat.le_trans hsz hb9.size
  clear cA lA cB lB lR HS hb9
  have lR := kR.lt
  obtain ⟨wq, hwq⟩ : ∃ x, x = w9 := ⟨_, rfl⟩
  subst hwq
  go_upto_region 4 with fail
  refine held_var (S := fun V => Blk V N 75 #[.bool false, .slice A n ca] ∧ Blk V (N + 1) 75 #[.bool true, .slice B m cb]) (by kernel_rfl) ⟨kA.drew, kB.drew⟩ (fun V0 hV0 hS0 => ?_)
  have hb0 : Below wq.heap.size wq V0 := by rw [hV0]; exact (Below.refl _ _).drew
  clear hV0
  refine wpAnyH_take (i := 0) (v := ?_) rfl (by kernel_rfl) (by kernel_rfl) (by kernel_rfl) (fun _ _ _ h => h) (Or.inl ⟨by rfl, ?hy⟩) (by assumption) ?_
  case hy => (intro w hSw; have cA := hSw.1.cell; have lA := hSw.1.lt; have cB := hSw.2.cell; have lB := hSw.2.lt; clear hSw; go_simp; try with_reducible rfl)
  refine wpAnyH_take (i := 1) (v := ?_) rfl (by kernel_rfl) (by kernel_rfl) (by kernel_rfl) (fun _ _ _ h => h) (Or.inl ⟨by rfl, ?hy⟩) (by assumption) ?_
  case hy => (intro w hSw; have cA := hSw.1.cell; have lA := hSw.1.lt; have cB := hSw.2.cell; have lB := hSw.2.lt; clear hSw; go_simp; try with_reducible rfl)
  refine wpAnyH_take (i := 2) (v := ?_) rfl (by kernel_rfl) (by kernel_rfl) (by kernel_rfl) (fun _ _ _ h => h) (Or.inl ⟨by rfl, ?hy⟩) (by assumption) ?_
  case hy => (intro w hSw; have cA := hSw.1.cell; have lA := hSw.1.lt; have cB := hSw.2.cell; have lB := hSw.2.lt; clear hSw; go_simp; try with_reducible rfl)
  refine wpAnyH_take (i := 3) (v := ?_) rfl (by kernel_rfl) (by kernel_rfl) (by kernel_rfl) (fun _ _ _ h => h) (Or.inl ⟨by rfl, ?hy⟩) (by assumption) ?_
  case hy => (intro w hSw; have cA := hSw.1.cell; have lA := hSw.1.lt; have cB := hSw.2.cell; have lB := hSw.2.lt; clear hSw; go_simp; try with_reducible rfl)
  simp only [Act.put, List.getElem_toArray, List.getElem_cons_succ, List.getElem_cons_zero, List.setIfInBounds_toArray, List.set_cons_succ, List.set_cons_zero]
  refine wpAnyH_take (i := 4) (v := ?_) rfl (by kernel_rfl) (by kernel_rfl) (by kernel_rfl) (fun _ _ _ h => h) (Or.inl ⟨by rfl, ?hy⟩) (by assumption) ?_
  case hy => (intro w hSw; have cA := hSw.1.cell; have lA := hSw.1.lt; have cB := hSw.2.cell; have lB := hSw.2.lt; clear hSw; go_simp; try with_reducible rfl)
  refine wpAnyH_take (i := 5) (v := ?_) rfl (by kernel_rfl) (by kernel_rfl) (by kernel_rfl) (fun _ _ _ h => h) (Or.inl ⟨by rfl, ?hy⟩) (by assumption) ?_
  case hy => (intro w hSw; have cA := hSw.1.cell; have lA := hSw.1.lt; have cB := hSw.2.cell; have lB := hSw.2.lt; clear hSw; go_simp; try with_reducible rfl)
  simp only [Act.put, List.getElem_toArray, List.getElem_cons_succ, List.getElem_cons_zero, List.setIfInBounds_toArray, List.set_cons_succ, List.set_cons_zero]
  refine wpAnyH_ready (rs := [6]) (by kernel_rfl) (by simp) (AllReadyH.cons rfl (fun K hK => ?_) AllReadyH.nil)
  go_simp
  refine (HP.out V0 (by rw [HNe.out]; exact hb1.trans (hb0.mono hsz))).mono ?_
  rintro e w5 ⟨v5, rfl, hv5, hb5⟩
  obtain ⟨A5, n5, c5, rfl⟩ := hv5.form
  have hb6 := hb0.trans (hb5.mono hb0.size)
  refine hK.out _ _ ⟨kA.later hb6, kB.later hb6⟩ (fun _ => ?_)
  clear hK K HP
  refine wpAnyH_ready (rs := [7]) (by kernel_rfl) (by simp) (AllReadyH.cons rfl (fun K hK => ?_) AllReadyH.nil)
  go_simp
  refine (made_any (.slice A5 n5 c5) p w5 hv5).mono ?_
  rintro e w7 ⟨rfl, hv7, hb7⟩
  have hbz := hb6.trans (hb7.mono hb6.size)
  refine hK.out _ _ ⟨kA.later hbz, kB.later hbz⟩ (fun _ => ?_)
  clear hK K hb5 hb7 hv5
  have hR0 : Blk w7 (N + 2) 75 #[.bool false, .slice none 0 0] := kR.later hbz
  have hR1 : Blk _ (N + 2) 75 #[.bool false, .slice none 0 0] := hR0.set_ 0 (.bool false)
  have hR2 : Blk _ (N + 2) 75 #[.bool false, .slice A5 n5 c5] := hR1.set_ 1 (.slice A5 n5 c5)
  have hA2 := ((kA.later hbz).far (p := ⟨N + 2, 0, none⟩) (show N ≠ N + 2 by omega) (.bool false)).far (p := ⟨N + 2, 1, none⟩) (show N ≠ N + 2 by omega) (.slice A5 n5 c5)
  have hB2 := ((kB.later hbz).far (p := ⟨N + 2, 0, none⟩) (show N + 1 ≠ N + 2 by omega) (.bool false)).far (p := ⟨N + 2, 1, none⟩) (show N + 1 ≠ N + 2 by omega) (.slice A5 n5 c5)
  have HM := Lib.hid ((hv7.farB (r := [.slice none 0 0]) hR0 (p := ⟨N + 2, 0, none⟩) rfl (.bool false)).farB (r := [.slice none 0 0]) hR1 (p := ⟨N + 2, 1, none⟩) rfl (.slice A5 n5 c5))
  have HB := Lib.hid (((hb1.trans (hbz.mono hsz)).setCell (p := ⟨N + 2, 0, none⟩) (show N ≤ N + 2 by omega) (.bool false)).setCell (p := ⟨N + 2, 1, none⟩) (show N ≤ N + 2 by omega) (.slice A5 n5 c5))
  have HR2 := Lib.hid hR2
  have HE := Lib.hid (And.intro hA2 hB2)
  have cR := hR0.cell
  have fR := hR0.frozen
  have lR8 := hR0.lt
  have cR1 := hR1.cell
  have fR1 := hR1.frozen
  clear hR0 hR1 hR2 hA2 hB2 hv7 hbz hb6 kA kB kR hb1
  refine wpAnyH_ready (rs := [8]) (by kernel_rfl) (by simp) (AllReadyH.cons rfl (fun K hK => ?_) AllReadyH.nil)
  go_simp
  refine hK.out _ _ HE.out (fun _ => ?_)
  clear hK K
  refine wpAnyH_done (by kernel_rfl) ?_ _
  go_wp2_with fail
  refine bodyPost_cell (N + 2) 75 #[.bool false, .slice A5 n5 c5] (.agg #[.bool false, .slice A5 n5 c5]) HR2.out ?_ ⟨_, rfl, HM.out, by rw [HNe.out]; exact HB.out⟩
  intro W' hW'
  simp [results, Tryz.results117, go_sem, hW']
set_option maxHeartbeats 16000000 in
theorem addI_lt (va vb : Value) (a b : Nat) (w : World) (ha : MagW w va a) (hb : MagW w vb b) (ha2 : a < 4294967296) (hb2 : b < 4294967296) (hab : a < b) : Calls Tryz.prog 117 #[.agg #[.bool false, va], .agg #[.bool true, vb]] w fun e w' => ∃ v, e = .returned (.agg #[.bool true, v]) ∧ MagW w' v (b - a) ∧ Below w.heap.size w w' := by
  have HP : Hid (∀ V, Below w.heap.size w V → Calls Tryz.prog 96 #[vb, va] V (TrimR V (b - a))) := fun V h => minus_any vb va b a V (hb.later h) (ha.later h) hb2 (Nat.le_of_lt hab)
  have HS : Hid (∀ V, Below w.heap.size w V → Calls Tryz.prog 95 #[va, vb] V fun e w' => e = .returned (.int .i64 (cmpN a b)) ∧ Below V.heap.size V w') := fun V h => wsize_any va vb a b V (ha.later h) (hb.later h) ha2 hb2
  obtain ⟨A, n, ca, rfl⟩ := ha.form
  obtain ⟨B, m, cb, rfl⟩ := hb.form
  have hcv : cmpN a b < 0 := by unfold cmpN; split <;> (try split) <;> omega
  generalize cmpN a b = cv at HS hcv
  have hdc : decide (cv ≥ 0) = false := decide_eq_false (by omega)
  have hdc' : decide (0 ≤ cv) = false := decide_eq_false (by omega)
  obtain ⟨p, hp⟩ : ∃ p, p = (b - a) := ⟨_, rfl⟩
  have hp0 : 0 < p := by omega
  rw [← hp] at HP ⊢
  clear hp ha hb hab ha2 hb2
  have e3 : ((w.alloc (.cells #[.bool false, .slice A n ca] 75)).alloc (.cells #[.bool true, .slice B m cb] 75)).heap.size = w.heap.size + 2 := by simp
  have e1 : (w.alloc (.cells #[.bool false, .slice A n ca] 75)).heap.size = w.heap.size + 1 := by simp
  have kA := ((Blk.new w 75 #[.bool false, .slice A n ca]).alloc (.cells #[.bool true, .slice B m cb] 75)).alloc (.cells #[.bool false, .slice none 0 0] 75)
  have kB := (Blk.new (w.alloc (.cells #[.bool false, .slice A n ca] 75)) 75 #[.bool true, .slice B m cb]).alloc (.cells #[.bool false, .slice none 0 0] 75)
  have kR := Blk.new ((w.alloc (.cells #[.bool false, .slice A n ca] 75)).alloc (.cells #[.bool true, .slice B m cb] 75)) 75 #[.bool false, .slice none 0 0]
  rw [e1] at kB
  rw [e3] at kR
  have hb1 : Below w.heap.size w (((w.alloc (.cells #[.bool false, .slice A n ca] 75)).alloc (.cells #[.bool true, .slice B m cb] 75)).alloc (.cells #[.bool false, .slice none 0 0] 75)) :=
    (((Below.refl _ _).alloc (Nat.le_refl _) _).alloc (by simp) _).alloc (by simp; omega) _
  clear e1 e3
  go_enter Tryz.func117, Tryz.ntmps117
  go_upto_region 1 with fail
  revert kA kB kR hb1
  generalize ((w.alloc (.cells #[.bool false, .slice A n ca] 75)).alloc (.cells #[.bool true, .slice B m cb] 75)).alloc (.cells #[.bool false, .slice none 0 0] 75) = wq
  generalize hNe : w.heap.size = N
  intro kA kB kR hb1
  have HNe := Lib.hid hNe
  have hsz := hb1.size
  rw [hNe] at hsz
  clear hNe
  have lR := kR.lt
  have cA := kA.cell
  have lA := kA.lt
  have cB := kB.cell
  have lB := kB.lt
  have hbe : ((false : Bool) == true) = false := rfl
  go_wp2_with fail
  refine (HS.out wq (by rw [HNe.out]; exact hb1)).mono ?_
  rintro e w9 ⟨rfl, hb9⟩
  replace kA := kA.later hb9
  replace kB := kB.later hb9
  replace kR := kR.later hb9
  replace hb1 := hb1.trans (hb9.mono hsz)
  replace hsz := Nat.le_trans hsz hb9.size
  clear cA lA cB lB lR HS hb9
  have lR := kR.lt
  obtain ⟨wq, hwq⟩ : ∃ x, x = w9 := ⟨_, rfl⟩
  subst hwq
  go_upto_region 5 with fail
  refine held_var (S := fun V => Blk V N 75 #[.bool false, .slice A n ca] ∧ Blk V (N + 1) 75 #[.bool true, .slice B m cb]) (by kernel_rfl) ⟨kA.drew, kB.drew⟩ (fun V0 hV0 hS0 => ?_)
  have hb0 : Below wq.heap.size wq V0 := by rw [hV0]; exact (Below.refl _ _).drew
  clear hV0
  refine wpAnyH_take (i := 0) (v := ?_) rfl (by kernel_rfl) (by kernel_rfl) (by kernel_rfl) (fun _ _ _ h => h) (Or.inl ⟨by rfl, ?hy⟩) (by assumption) ?_
  case hy => (intro w hSw; have cA := hSw.1.cell; have lA := hSw.1.lt; have cB := hSw.2.cell; have lB := hSw.2.lt; clear hSw; go_simp; try with_reducible rfl)
  refine wpAnyH_take (i := 1) (v := ?_) rfl (by kernel_rfl) (by kernel_rfl) (by kernel_rfl) (fun _ _ _ h => h) (Or.inl ⟨by rfl, ?hy⟩) (by assumption) ?_
  case hy => (intro w hSw; have cA := hSw.1.cell; have lA := hSw.1.lt; have cB := hSw.2.cell; have lB := hSw.2.lt; clear hSw; go_simp; try with_reducible rfl)
  refine wpAnyH_take (i := 2) (v := ?_) rfl (by kernel_rfl) (by kernel_rfl) (by kernel_rfl) (fun _ _ _ h => h) (Or.inl ⟨by rfl, ?hy⟩) (by assumption) ?_
  case hy => (intro w hSw; have cA := hSw.1.cell; have lA := hSw.1.lt; have cB := hSw.2.cell; have lB := hSw.2.lt; clear hSw; go_simp; try with_reducible rfl)
  refine wpAnyH_take (i := 3) (v := ?_) rfl (by kernel_rfl) (by kernel_rfl) (by kernel_rfl) (fun _ _ _ h => h) (Or.inl ⟨by rfl, ?hy⟩) (by assumption) ?_
  case hy => (intro w hSw; have cA := hSw.1.cell; have lA := hSw.1.lt; have cB := hSw.2.cell; have lB := hSw.2.lt; clear hSw; go_simp; try with_reducible rfl)
  simp only [Act.put, List.getElem_toArray, List.getElem_cons_succ, List.getElem_cons_zero, List.setIfInBounds_toArray, List.set_cons_succ, List.set_cons_zero]
  refine wpAnyH_take (i := 4) (v := ?_) rfl (by kernel_rfl) (by kernel_rfl) (by kernel_rfl) (fun _ _ _ h => h) (Or.inl ⟨by rfl, ?hy⟩) (by assumption) ?_
  case hy => (intro w hSw; have cA := hSw.1.cell; have lA := hSw.1.lt; have cB := hSw.2.cell; have lB := hSw.2.lt; clear hSw; go_simp; try with_reducible rfl)
  refine wpAnyH_take (i := 5) (v := ?_) rfl (by kernel_rfl) (by kernel_rfl) (by kernel_rfl) (fun _ _ _ h => h) (Or.inl ⟨by rfl, ?hy⟩) (by assumption) ?_
  case hy => (intro w hSw; have cA := hSw.1.cell; have lA := hSw.1.lt; have cB := hSw.2.cell; have lB := hSw.2.lt; clear hSw; go_simp; try with_reducible rfl)
  simp only [Act.put, List.getElem_toArray, List.getElem_cons_succ, List.getElem_cons_zero, List.setIfInBounds_toArray, List.set_cons_succ, List.set_cons_zero]
  refine wpAnyH_ready (rs := [6]) (by kernel_rfl) (by simp) (AllReadyH.cons rfl (fun K hK => ?_) AllReadyH.nil)
  go_simp
  refine (HP.out V0 (by rw [HNe.out]; exact hb1.trans (hb0.mono hsz))).mono ?_
  rintro e w5 ⟨v5, rfl, hv5, hb5⟩
  obtain ⟨A5, n5, c5, rfl⟩ := hv5.form
  have hb6 := hb0.trans (hb5.mono hb0.size)
  refine hK.out _ _ ⟨kA.later hb6, kB.later hb6⟩ (fun _ => ?_)
  clear hK K HP
  refine wpAnyH_ready (rs := [7]) (by kernel_rfl) (by simp) (AllReadyH.cons rfl (fun K hK => ?_) AllReadyH.nil)
  go_simp
  refine (made_true A5 n5 c5 w5 (hv5.lenpos hp0)).mono ?_
  rintro e w7 ⟨rfl, hb7⟩
  have hv7 := hv5.later hb7
  have hbz := hb6.trans (hb7.mono hb6.size)
  refine hK.out _ _ ⟨kA.later hbz, kB.later hbz⟩ (fun _ => ?_)
  clear hK K hb5 hb7 hv5
  have hR0 : Blk w7 (N + 2) 75 #[.bool false, .slice none 0 0] := kR.later hbz
  have hR1 : Blk _ (N + 2) 75 #[.bool true, .slice none 0 0] := hR0.set_ 0 (.bool true)
  have hR2 : Blk _ (N + 2) 75 #[.bool true, .slice A5 n5 c5] := hR1.set_ 1 (.slice A5 n5 c5)
  have hA2 := ((kA.later hbz).far (p := ⟨N + 2, 0, none⟩) (show N ≠ N + 2 by omega) (.bool true)).far (p := ⟨N + 2, 1, none⟩) (show N ≠ N + 2 by omega) (.slice A5 n5 c5)
  have hB2 := ((kB.later hbz).far (p := ⟨N + 2, 0, none⟩) (show N + 1 ≠ N + 2 by omega) (.bool true)).far (p := ⟨N + 2, 1, none⟩) (show N + 1 ≠ N + 2 by omega) (.slice A5 n5 c5)
  have HM := Lib.hid ((hv7.farB (r := [.slice none 0 0]) hR0 (p := ⟨N + 2, 0, none⟩) rfl (.bool true)).farB (r := [.slice none 0 0]) hR1 (p := ⟨N + 2, 1, none⟩) rfl (.slice A5 n5 c5))
  have HB := Lib.hid (((hb1.trans (hbz.mono hsz)).setCell (p := ⟨N + 2, 0, none⟩) (show N ≤ N + 2 by omega) (.bool true)).setCell (p := ⟨N + 2, 1, none⟩) (show N ≤ N + 2 by omega) (.slice A5 n5 c5))
  have HR2 := Lib.hid hR2
  have HE := Lib.hid (And.intro hA2 hB2)
  have cR := hR0.cell
  have fR := hR0.frozen
  have lR8 := hR0.lt
  have cR1 := hR1.cell
  have fR1 := hR1.frozen
  clear hR0 hR1 hR2 hA2 hB2 hv7 hbz hb6 kA kB kR hb1
  refine wpAnyH_ready (rs := [8]) (by kernel_rfl) (by simp) (AllReadyH.cons rfl (fun K hK => ?_) AllReadyH.nil)
  go_simp
  refine hK.out _ _ HE.out (fun _ => ?_)
  clear hK K
  refine wpAnyH_done (by kernel_rfl) ?_ _
  go_wp2_with fail
  refine bodyPost_cell (N + 2) 75 #[.bool true, .slice A5 n5 c5] (.agg #[.bool true, .slice A5 n5 c5]) HR2.out ?_ ⟨_, rfl, HM.out, by rw [HNe.out]; exact HB.out⟩
  intro W' hW'
  simp [results, Tryz.results117, go_sem, hW']
end Go.Proofs.YtpklcjbdmikbdaaGreat
namespace Go.Proofs.YtpklcjbdmikbdaaGreat
set_option maxRecDepth 100000
open Go.RowKit

theorem negI_any (v : Value) (b : Nat) (V : World) (hb : MagW V v b) : Calls Tryz.prog 56 #[.agg #[.bool false, v]] V fun e w' => e = .returned (.agg #[.bool (decide (0 < b)), v]) ∧ Below V.heap.size V w' := by
  rcases Nat.eq_zero_or_pos b with h0 | h0
  · subst h0
    obtain ⟨B, d, rfl⟩ := mag_zero hb
    exact negI_zero B d V
  · obtain ⟨B, d, rfl, _⟩ := hb
    rw [decide_eq_true h0]
    refine negI_pos B _ d ?_ V
    rcases Nat.eq_zero_or_pos (limbs b).length with h1 | h1
    · have := limbs_nil.1 h1; omega
    · exact h1
theorem addI_any (va vb : Value) (a b : Nat) (V : World) (ha : MagW V va a) (hb : MagW V vb b) (la : a < 4294967296) (lb : b < 4294967296) : Calls Tryz.prog 117 #[.agg #[.bool false, va], .agg #[.bool (decide (0 < b)), vb]] V (DifI V a b) := by
  rcases Nat.eq_zero_or_pos b with h0 | h0
  · subst h0
    refine (intAdd_any va vb a 0 V ha hb la lb).mono ?_
    rintro e w' ⟨v, rfl, hv, hbb⟩
    refine ⟨v, ?_, ?_, hbb⟩
    · rw [decide_eq_false (show ¬ a < 0 by omega)]
    · unfold distN; rw [if_neg (by omega)]; exact hv
  · rw [decide_eq_true h0]
    rcases Nat.lt_or_ge a b with h | h
    · refine (addI_lt va vb a b V ha hb la lb h).mono ?_
      rintro e w' ⟨v, rfl, hv, hbb⟩
      refine ⟨v, ?_, ?_, hbb⟩
      · rw [decide_eq_true h]
      · unfold distN; rw [if_pos h]; exact hv
    · refine (addI_ge va vb a b V ha hb la lb h).mono ?_
      rintro e w' ⟨v, rfl, hv, hbb⟩
      refine ⟨v, ?_, ?_, hbb⟩
      · rw [decide_eq_false (show ¬ a < b by omega)]
      · unfold distN; rw [if_neg (by omega)]; exact hv
theorem signI_any (v : Value) (a b : Nat) (V : World) (hv : MagW V v (distN a b)) : Calls Tryz.prog 102 #[.agg #[.bool (decide (a < b)), v]] V fun e w' => e = .returned (.int .i64 (cmpN a b)) ∧ Below V.heap.size V w' := by
  have hpos : ∀ k, 0 < k → 0 < (limbs k).length := fun k hk => by
    rcases Nat.eq_zero_or_pos (limbs k).length with h1 | h1
    · have := limbs_nil.1 h1; omega
    · exact h1
  rcases Nat.lt_trichotomy a b with h | h | h
  · have e : cmpN a b = -1 := by unfold cmpN; rw [if_pos h]
    obtain ⟨B, d, rfl, _⟩ := hv
    rw [decide_eq_true h, e]
    exact signI_neg B _ d (hpos _ (by unfold distN; rw [if_pos h]; omega)) V
  · subst h
    have e : cmpN a a = 0 := by unfold cmpN; rw [if_neg (by omega), if_neg (by omega)]
    have e2 : distN a a = 0 := by unfold distN; rw [if_neg (by omega)]; omega
    rw [e2] at hv
    obtain ⟨B, d, rfl⟩ := mag_zero hv
    rw [decide_eq_false (show ¬ a < a by omega), e]
    exact signI_zero B d V
  · have e : cmpN a b = 1 := by unfold cmpN; rw [if_neg (by omega), if_pos h]
    obtain ⟨B, d, rfl, _⟩ := hv
    rw [decide_eq_false (show ¬ a < b by omega), e]
    exact signI_pos B _ d (hpos _ (by unfold distN; rw [if_neg (by omega)]; omega)) V
set_option maxHeartbeats 16000000 in
theorem subI_any (va vb : Value) (a b : Nat) (w : World) (ha : MagW w va a) (hb : MagW w vb b) (la : a < 4294967296) (lb : b < 4294967296) : Calls Tryz.prog 101 #[.agg #[.bool false, va], .agg #[.bool false, vb]] w (DifI w a b) := by
  have HG : Hid (∀ V, Below w.heap.size w V → _) := fun V h => negI_any vb b V (hb.later h)
  have HA : Hid (∀ V, Below w.heap.size w V → _) := fun V h => addI_any va vb a b V (ha.later h) (hb.later h) la lb
  obtain ⟨A, n, ca, rfl⟩ := ha.form
  obtain ⟨B, m, cb, rfl⟩ := hb.form
  generalize decide (0 < b) = sb at *
  clear ha hb
  have e3 : ((w.alloc (.cells #[.bool false, .slice A n ca] 75)).alloc (.cells #[.bool false, .slice B m cb] 75)).heap.size = w.heap.size + 2 := by simp
  have e1 : (w.alloc (.cells #[.bool false, .slice A n ca] 75)).heap.size = w.heap.size + 1 := by simp
  have kA := ((Blk.new w 75 #[.bool false, .slice A n ca]).alloc (.cells #[.bool false, .slice B m cb] 75)).alloc (.cells #[.bool false, .slice none 0 0] 75)
  have kB := (Blk.new (w.alloc (.cells #[.bool false, .slice A n ca] 75)) 75 #[.bool false, .slice B m cb]).alloc (.cells #[.bool false, .slice none 0 0] 75)
  have kR := Blk.new ((w.alloc (.cells #[.bool false, .slice A n ca] 75)).alloc (.cells #[.bool false, .slice B m cb] 75)) 75 #[.bool false, .slice none 0 0]
  rw [e1] at kB
  rw [e3] at kR
  have hb1 : Below w.heap.size w (((w.alloc (.cells #[.bool false, .slice A n ca] 75)).alloc (.cells #[.bool false, .slice B m cb] 75)).alloc (.cells #[.bool false, .slice none 0 0] 75)) :=
    (((Below.refl _ _).alloc (Nat.le_refl _) _).alloc (by simp) _).alloc (by simp; omega) _
  clear e1 e3
  go_enter Tryz.func101, Tryz.ntmps101
  go_upto_region 1 with fail
  revert kA kB kR hb1
  generalize ((w.alloc (.cells #[.bool false, .slice A n ca] 75)).alloc (.cells #[.bool false, .slice B m cb] 75)).alloc (.cells #[.bool false, .slice none 0 0] 75) = wq
  generalize hNe : w.heap.size = N
  intro kA kB kR hb1
  have HNe := Lib.hid hNe
  have hsz := hb1.size
  rw [hNe] at hsz
  clear hNe
  have lR := kR.lt
  refine held_var (S := fun V => Blk V N 75 #[.bool false, .slice A n ca] ∧ Blk V (N + 1) 75 #[.bool false, .slice B m cb]) (by kernel_rfl) ⟨kA.drew, kB.drew⟩ (fun V0 hV0 hS0 => ?_)
  have hb0 : Below wq.heap.size wq V0 := by rw [hV0]; exact (Below.refl _ _).drew
  clear hV0
  refine wpAnyH_take (i := 0) (v := ?_) rfl (by kernel_rfl) (by kernel_rfl) (by kernel_rfl) (fun _ _ _ h => h) (Or.inl ⟨by rfl, ?hy⟩) (by assumption) ?_
  case hy => (intro w hSw; have cA := hSw.1.cell; have lA := hSw.1.lt; have cB := hSw.2.cell; have lB := hSw.2.lt; clear hSw; go_simp; try with_reducible rfl)
  refine wpAnyH_take (i := 1) (v := ?_) rfl (by kernel_rfl) (by kernel_rfl) (by kernel_rfl) (fun _ _ _ h => h) (Or.inl ⟨by rfl, ?hy⟩) (by assumption) ?_
  case hy => (intro w hSw; have cA := hSw.1.cell; have lA := hSw.1.lt; have cB := hSw.2.cell; have lB := hSw.2.lt; clear hSw; go_simp; try with_reducible rfl)
  simp only [Act.put, List.getElem_toArray, List.getElem_cons_succ, List.getElem_cons_zero, List.setIfInBounds_toArray, List.set_cons_succ, List.set_cons_zero]
  refine wpAnyH_ready (rs := [2]) (by kernel_rfl) (by simp) (AllReadyH.cons rfl (fun K hK => ?_) AllReadyH.nil)
  go_simp
  refine (HG.out V0 (by rw [HNe.out]; exact hb1.trans (hb0.mono hsz))).mono ?_
  rintro e w5 ⟨rfl, hb5⟩
  have hb6 := hb0.trans (hb5.mono hb0.size)
  refine hK.out _ _ ⟨kA.later hb6, kB.later hb6⟩ (fun _ => ?_)
  clear hK K HG
  refine wpAnyH_ready (rs := [3]) (by kernel_rfl) (by simp) (AllReadyH.cons rfl (fun K hK => ?_) AllReadyH.nil)
  go_simp
  refine (HA.out w5 (by rw [HNe.out]; exact hb1.trans (hb6.mono hsz))).mono ?_
  rintro e w7 ⟨v7, rfl, hv7, hb7⟩
  obtain ⟨A7, n7, c7, rfl⟩ := hv7.form
  obtain ⟨sg, hsg⟩ : ∃ sg, sg = decide (a < b) := ⟨_, rfl⟩
  rw [← hsg]
  have HSG := Lib.hid hsg
  have hbz := hb6.trans (hb7.mono hb6.size)
  refine hK.out _ _ ⟨kA.later hbz, kB.later hbz⟩ (fun _ => ?_)
  clear hK K HA hsg hb5 hb7
  have hR0 : Blk w7 (N + 2) 75 #[.bool false, .slice none 0 0] := kR.later hbz
  have hR1 : Blk _ (N + 2) 75 #[.bool sg, .slice none 0 0] := hR0.set_ 0 (.bool sg)
  have hR2 : Blk _ (N + 2) 75 #[.bool sg, .slice A7 n7 c7] := hR1.set_ 1 (.slice A7 n7 c7)
  have hA2 := ((kA.later hbz).far (p := ⟨N + 2, 0, none⟩) (show N ≠ N + 2 by omega) (.bool sg)).far (p := ⟨N + 2, 1, none⟩) (show N ≠ N + 2 by omega) (.slice A7 n7 c7)
  have hB2 := ((kB.later hbz).far (p := ⟨N + 2, 0, none⟩) (show N + 1 ≠ N + 2 by omega) (.bool sg)).far (p := ⟨N + 2, 1, none⟩) (show N + 1 ≠ N + 2 by omega) (.slice A7 n7 c7)
  have HM := Lib.hid ((hv7.farB (r := [.slice none 0 0]) hR0 (p := ⟨N + 2, 0, none⟩) rfl (.bool sg)).farB (r := [.slice none 0 0]) hR1 (p := ⟨N + 2, 1, none⟩) rfl (.slice A7 n7 c7))
  have HB := Lib.hid (((hb1.trans (hbz.mono hsz)).setCell (p := ⟨N + 2, 0, none⟩) (show N ≤ N + 2 by omega) (.bool sg)).setCell (p := ⟨N + 2, 1, none⟩) (show N ≤ N + 2 by omega) (.slice A7 n7 c7))
  have HR2 := Lib.hid hR2
  have HE := Lib.hid (And.intro hA2 hB2)
  have cR := hR0.cell
  have fR := hR0.frozen
  have lR8 := hR0.lt
  have cR1 := hR1.cell
  have fR1 := hR1.frozen
  clear hR0 hR1 hR2 hA2 hB2 hv7 hbz hb6 kA kB kR hb1
  refine wpAnyH_ready (rs := [4]) (by kernel_rfl) (by simp) (AllReadyH.cons rfl (fun K hK => ?_) AllReadyH.nil)
  go_simp
  refine hK.out _ _ HE.out (fun _ => ?_)
  clear hK K
  refine wpAnyH_done (by kernel_rfl) ?_ _
  go_wp2_with fail
  refine bodyPost_cell (N + 2) 75 #[.bool sg, .slice A7 n7 c7] (.agg #[.bool sg, .slice A7 n7 c7]) HR2.out ?_ ⟨_, by rw [HSG.out], HM.out, by rw [HNe.out]; exact HB.out⟩
  intro W' hW'
  simp [results, Tryz.results101, go_sem, hW']
set_option maxHeartbeats 16000000 in
theorem cmpI_any2 (va vb : Value) (a b : Nat) (w : World) (ha : MagW w va a) (hb : MagW w vb b) (la : a < 4294967296) (lb : b < 4294967296) : Calls Tryz.prog 89 #[.agg #[.bool false, va], .agg #[.bool false, vb]] w fun e w' => e = .returned (.int .i64 (cmpN a b)) ∧ Below w.heap.size w w' := by
  have HS : Hid (∀ V, Below w.heap.size w V → _) := fun V h => subI_any va vb a b V (ha.later h) (hb.later h) la lb
  have HG : Hid (∀ (V : World) (v : Value), MagW V v (distN a b) → _) := fun V v h => signI_any v a b V h
  obtain ⟨A, n, ca, rfl⟩ := ha.form
  obtain ⟨B, m, cb, rfl⟩ := hb.form
  have hb1 : Below w.heap.size w ((w.alloc (.cells #[.bool false, .slice A n ca] 75)).alloc (.cells #[.bool false, .slice B m cb] 75)) := ((Below.refl _ _).alloc (Nat.le_refl _) _).alloc (by simp) _
  have HS2 := Lib.hid (HS.out _ hb1)
  clear ha hb HS
  go_enter Tryz.func89, Tryz.ntmps89
  go_wp2_with fail
  refine HS2.out.mono ?_
  rintro e w2 ⟨v, rfl, hv, hb2⟩
  have HG2 := Lib.hid (HG.out w2 v hv)
  obtain ⟨A2, n2, c2, rfl⟩ := hv.form
  have hb3 := hb1.trans (hb2.mono hb1.size)
  clear HS2 HG hv hb1 hb2
  generalize decide (a < b) = sg at *
  go_wp2_with fail
  refine HG2.out.mono ?_
  rintro e w4 ⟨rfl, hb4⟩
  go_wp2_with fail
  go_ret
  exact ⟨rfl, hb3.trans (hb4.mono hb3.size)⟩
set_option maxHeartbeats 16000000 in
theorem cmpR_any (va vb vc vd : Value) (a b c d : Nat) (w : World) (ha : MagW w va a) (hb : MagW w vb b) (hc : MagW w vc c) (hd : MagW w vd d) (a1 : a ≤ 32768) (b1 : b ≤ 32768) (c1 : c ≤ 32768) (d1 : d ≤ 32768) (b0 : 0 < b) (d0 : 0 < d) : Calls Tryz.prog 74 #[.agg #[.bool false, va, .bool false, vb], .agg #[.bool false, vc, .bool false, vd]] w fun e w' => e = .returned (.int .i64 (cmpN (a * d) (c * b))) ∧ Below w.heap.size w w' := by
  have HM1 : Hid (∀ V, Below w.heap.size w V → _) := fun V h => mul_any va vd a d V (ha.later h) (hd.later h) (by omega) (by omega) d0
  have HM2 : Hid (∀ V, Below w.heap.size w V → _) := fun V h => mul_any vc vb c b V (hc.later h) (hb.later h) (by omega) (by omega) b0
  have q1 : a * d < 4294967296 := by
    have := Nat.mul_le_mul a1 d1
    omega
  have q2 : c * b < 4294967296 := by
    have := Nat.mul_le_mul c1 b1
    omega
  have HC : Hid (∀ (V : World) (x y : Value), MagW V x (a * d) → MagW V y (c * b) → _) := fun V x y h1 h2 => cmpI_any2 x y (a * d) (c * b) V h1 h2 q1 q2
  generalize a * d = p1 at *
  generalize c * b = p2 at *
  obtain ⟨A, n1, c1, rfl⟩ := ha.form
  obtain ⟨B, n2, c2, rfl⟩ := hb.form
  obtain ⟨C, n3, c3, rfl⟩ := hc.form
  obtain ⟨D, n4, c4, rfl⟩ := hd.form
  clear ha hb hc hd q1 q2
  have e1 : (w.alloc (.cells #[.bool false, .slice A n1 c1, .bool false, .slice B n2 c2] 77)).heap.size = w.heap.size + 1 := by simp
  have kA := (Blk.new w 77 #[.bool false, .slice A n1 c1, .bool false, .slice B n2 c2]).alloc (.cells #[.bool false, .slice C n3 c3, .bool false, .slice D n4 c4] 77)
  have kB := Blk.new (w.alloc (.cells #[.bool false, .slice A n1 c1, .bool false, .slice B n2 c2] 77)) 77 #[.bool false, .slice C n3 c3, .bool false, .slice D n4 c4]
  rw [e1] at kB
  have hb1 : Below w.heap.size w ((w.alloc (.cells #[.bool false, .slice A n1 c1, .bool false, .slice B n2 c2] 77)).alloc (.cells #[.bool false, .slice C n3 c3, .bool false, .slice D n4 c4] 77)) := ((Below.refl _ _).alloc (Nat.le_refl _) _).alloc (by simp) _
  clear e1
  go_enter Tryz.func74, Tryz.ntmps74
  go_upto_region 1 with fail
  have HALL := And.intro kA (And.intro kB hb1)
  clear kA kB hb1
  revert HALL
  generalize (w.alloc (.cells #[.bool false, .slice A n1 c1, .bool false, .slice B n2 c2] 77)).alloc (.cells #[.bool false, .slice C n3 c3, .bool false, .slice D n4 c4] 77) = wq
  generalize hNe : w.heap.size = N
  intro HALL
  obtain ⟨kA, kB, hb1⟩ := HALL
  have HNe := Lib.hid hNe
  have hsz := hb1.size
  rw [hNe] at hsz
  clear hNe
  refine held_var (S := fun V => Blk V N 77 #[.bool false, .slice A n1 c1, .bool false, .slice B n2 c2] ∧ Blk V (N + 1) 77 #[.bool false, .slice C n3 c3, .bool false, .slice D n4 c4]) (by kernel_rfl) ⟨kA.drew, kB.drew⟩ (fun V0 hV0 hS0 => ?_)
  have hb0 : Below wq.heap.size wq V0 := by rw [hV0]; exact (Below.refl _ _).drew
  clear hV0
  refine wpAnyH_take (i := 0) (v := ?_) rfl (by kernel_rfl) (by kernel_rfl) (by kernel_rfl) (fun _ _ _ h => h) (Or.inl ⟨by rfl, ?hy⟩) (by assumption) ?_
  case hy => (intro w hSw; have cA := hSw.1.cell; have lA := hSw.1.lt; have cB := hSw.2.cell; have lB := hSw.2.lt; clear hSw; go_simp; try with_reducible rfl)
  refine wpAnyH_take (i := 1) (v := ?_) rfl (by kernel_rfl) (by kernel_rfl) (by kernel_rfl) (fun _ _ _ h => h) (Or.inl ⟨by rfl, ?hy⟩) (by assumption) ?_
  case hy => (intro w hSw; have cA := hSw.1.cell; have lA := hSw.1.lt; have cB := hSw.2.cell; have lB := hSw.2.lt; clear hSw; go_simp; try with_reducible rfl)
  refine wpAnyH_take (i := 2) (v := ?_) rfl (by kernel_rfl) (by kernel_rfl) (by kernel_rfl) (fun _ _ _ h => h) (Or.inl ⟨by rfl, ?hy⟩) (by assumption) ?_
  case hy => (intro w hSw; have cA := hSw.1.cell; have lA := hSw.1.lt; have cB := hSw.2.cell; have lB := hSw.2.lt; clear hSw; go_simp; try with_reducible rfl)
  refine wpAnyH_take (i := 3) (v := ?_) rfl (by kernel_rfl) (by kernel_rfl) (by kernel_rfl) (fun _ _ _ h => h) (Or.inl ⟨by rfl, ?hy⟩) (by assumption) ?_
  case hy => (intro w hSw; have cA := hSw.1.cell; have lA := hSw.1.lt; have cB := hSw.2.cell; have lB := hSw.2.lt; clear hSw; go_simp; try with_reducible rfl)
  simp only [Act.put, List.getElem_toArray, List.getElem_cons_succ, List.getElem_cons_zero, List.setIfInBounds_toArray, List.set_cons_succ, List.set_cons_zero]
  refine wpAnyH_take (i := 5) (v := ?_) rfl (by kernel_rfl) (by kernel_rfl) (by kernel_rfl) (fun _ _ _ h => h) (Or.inl ⟨by rfl, ?hy⟩) (by assumption) ?_
  case hy => (intro w hSw; have cA := hSw.1.cell; have lA := hSw.1.lt; have cB := hSw.2.cell; have lB := hSw.2.lt; clear hSw; go_simp; try with_reducible rfl)
  refine wpAnyH_take (i := 6) (v := ?_) rfl (by kernel_rfl) (by kernel_rfl) (by kernel_rfl) (fun _ _ _ h => h) (Or.inl ⟨by rfl, ?hy⟩) (by assumption) ?_
  case hy => (intro w hSw; have cA := hSw.1.cell; have lA := hSw.1.lt; have cB := hSw.2.cell; have lB := hSw.2.lt; clear hSw; go_simp; try with_reducible rfl)
  refine wpAnyH_take (i := 7) (v := ?_) rfl (by kernel_rfl) (by kernel_rfl) (by kernel_rfl) (fun _ _ _ h => h) (Or.inl ⟨by rfl, ?hy⟩) (by assumption) ?_
  case hy => (intro w hSw; have cA := hSw.1.cell; have lA := hSw.1.lt; have cB := hSw.2.cell; have lB := hSw.2.lt; clear hSw; go_simp; try with_reducible rfl)
  refine wpAnyH_take (i := 8) (v := ?_) rfl (by kernel_rfl) (by kernel_rfl) (by kernel_rfl) (fun _ _ _ h => h) (Or.inl ⟨by rfl, ?hy⟩) (by assumption) ?_
  case hy => (intro w hSw; have cA := hSw.1.cell; have lA := hSw.1.lt; have cB := hSw.2.cell; have lB := hSw.2.lt; clear hSw; go_simp; try with_reducible rfl)
  simp only [Act.put, List.getElem_toArray, List.getElem_cons_succ, List.getElem_cons_zero, List.setIfInBounds_toArray, List.set_cons_succ, List.set_cons_zero]
  refine wpAnyH_ready (rs := [4]) (by kernel_rfl) (by simp) (AllReadyH.cons rfl (fun K hK => ?_) AllReadyH.nil)
  go_simp
  refine (HM1.out V0 (by rw [HNe.out]; exact hb1.trans (hb0.mono hsz))).mono ?_
  rintro e V1 ⟨v1, rfl, h1, hbX⟩
  replace hb0 := hb0.trans (hbX.mono hb0.size)
  refine hK.out _ _ ⟨kA.later hb0, kB.later hb0⟩ (fun _ => ?_)
  clear hK K hbX HM1
  refine wpAnyH_ready (rs := [9]) (by kernel_rfl) (by simp) (AllReadyH.cons rfl (fun K hK => ?_) AllReadyH.nil)
  go_simp
  refine (HM2.out V1 (by rw [HNe.out]; exact hb1.trans (hb0.mono hsz))).mono ?_
  rintro e V2 ⟨v2, rfl, h2, hbX⟩
  replace hb0 := hb0.trans (hbX.mono hb0.size)
  replace h1 := h1.later hbX
  refine hK.out _ _ ⟨kA.later hb0, kB.later hb0⟩ (fun _ => ?_)
  clear hK K hbX HM2
  refine wpAnyH_ready (rs := [10]) (by kernel_rfl) (by simp) (AllReadyH.cons rfl (fun K hK => ?_) AllReadyH.nil)
  go_simp
  refine (HC.out V2 _ _ h1 h2).mono ?_
  rintro e V3 ⟨rfl, hbX⟩
  replace hb0 := hb0.trans (hbX.mono hb0.size)
  refine hK.out _ _ ⟨kA.later hb0, kB.later hb0⟩ (fun _ => ?_)
  clear hK K hbX HC h1 h2
  refine wpAnyH_ready (rs := [11]) (by kernel_rfl) (by simp) (AllReadyH.cons rfl (fun K hK => ?_) AllReadyH.nil)
  go_simp
  refine hK.out _ _ ⟨kA.later hb0, kB.later hb0⟩ (fun _ => ?_)
  clear hK K
  refine wpAnyH_done (by kernel_rfl) ?_ _
  have hbz := hb1.trans (hb0.mono hsz)
  go_wp2_with fail
  go_ret
  exact ⟨rfl, by rw [HNe.out]; exact hbz⟩
end Go.Proofs.YtpklcjbdmikbdaaGreat
namespace Go.Proofs.YtpklcjbdmikbdaaGreat
set_option maxRecDepth 100000
open Go.RowKit

set_option maxHeartbeats 16000000 in
theorem order_any (n1 d1 n2 d2 : Nat) (w : World) (b1 : n1 ≤ 32768) (b2 : d1 ≤ 32768) (b3 : n2 ≤ 32768) (b4 : d2 ≤ 32768) (p1 : 0 < d1) (p2 : 0 < d2) :
    Calls Tryz.prog 50 #[.agg #[.int .i64 (n1 : Int), .int .i64 (d1 : Int)], .agg #[.int .i64 (n2 : Int), .int .i64 (d2 : Int)]] w fun e w' => e = .returned (.int .i64 (cmpN (n1 * d2) (n2 * d1))) ∧ Below w.heap.size w w' := by
  have HF1 : Hid (∀ V : World, _) := fun V => from_any n1 d1 V (by omega) (by omega)
  have HF2 : Hid (∀ V : World, _) := fun V => from_any n2 d2 V (by omega) (by omega)
  have HA : Hid (∀ (V : World) (x1 y1 x2 y2 : Value), MagW V x1 n1 → MagW V y1 d1 → MagW V x2 n2 → MagW V y2 d2 → _) := fun V x1 y1 x2 y2 h1 h2 h3 h4 => cmpR_any x1 y1 x2 y2 n1 d1 n2 d2 V h1 h2 h3 h4 b1 b2 b3 b4 p1 p2
  generalize cmpN (n1 * d2) (n2 * d1) = cv at *
  clear b1 b2 b3 b4 p1 p2
  have e1 : (w.alloc (.cells #[.int .i64 (n1 : Int), .int .i64 (d1 : Int)] 30)).heap.size = w.heap.size + 1 := by simp
  have kA := (Blk.new w 30 #[.int .i64 (n1 : Int), .int .i64 (d1 : Int)]).alloc (.cells #[.int .i64 (n2 : Int), .int .i64 (d2 : Int)] 30)
  have kB := Blk.new (w.alloc (.cells #[.int .i64 (n1 : Int), .int .i64 (d1 : Int)] 30)) 30 #[.int .i64 (n2 : Int), .int .i64 (d2 : Int)]
  rw [e1] at kB
  have hb1 : Below w.heap.size w ((w.alloc (.cells #[.int .i64 (n1 : Int), .int .i64 (d1 : Int)] 30)).alloc (.cells #[.int .i64 (n2 : Int), .int .i64 (d2 : Int)] 30)) := ((Below.refl _ _).alloc (Nat.le_refl _) _).alloc (by simp) _
  clear e1
  go_enter Tryz.func50, Tryz.ntmps50
  go_upto_region 1 with fail
  have HALL := And.intro kA (And.intro kB hb1)
  clear kA kB hb1
  revert HALL
  generalize (w.alloc (.cells #[.int .i64 (n1 : Int), .int .i64 (d1 : Int)] 30)).alloc (.cells #[.int .i64 (n2 : Int), .int .i64 (d2 : Int)] 30) = wq
  generalize hNe : w.heap.size = N
  intro HALL
  obtain ⟨kA, kB, hb1⟩ := HALL
  have HNe := Lib.hid hNe
  have hsz := hb1.size
  rw [hNe] at hsz
  clear hNe
  refine held_var (S := fun V => Blk V N 30 #[.int .i64 (n1 : Int), .int .i64 (d1 : Int)] ∧ Blk V (N + 1) 30 #[.int .i64 (n2 : Int), .int .i64 (d2 : Int)]) (by kernel_rfl) ⟨kA.drew, kB.drew⟩ (fun V0 hV0 hS0 => ?_)
  have hb0 : Below wq.heap.size wq V0 := by rw [hV0]; exact (Below.refl _ _).drew
  clear hV0
  refine wpAnyH_take (i := 0) (v := ?_) rfl (by kernel_rfl) (by kernel_rfl) (by kernel_rfl) (fun _ _ _ h => h) (Or.inl ⟨by rfl, ?hy⟩) (by assumption) ?_
  case hy => (intro w hSw; have cA := hSw.1.cell; have lA := hSw.1.lt; have cB := hSw.2.cell; have lB := hSw.2.lt; clear hSw; go_simp; try with_reducible rfl)
  refine wpAnyH_take (i := 2) (v := ?_) rfl (by kernel_rfl) (by kernel_rfl) (by kernel_rfl) (fun _ _ _ h => h) (Or.inl ⟨by rfl, ?hy⟩) (by assumption) ?_
  case hy => (intro w hSw; have cA := hSw.1.cell; have lA := hSw.1.lt; have cB := hSw.2.cell; have lB := hSw.2.lt; clear hSw; go_simp; try with_reducible rfl)
  simp only [Act.put, List.getElem_toArray, List.getElem_cons_succ, List.getElem_cons_zero, List.setIfInBounds_toArray, List.set_cons_succ, List.set_cons_zero]
  refine wpAnyH_ready (rs := [1]) (by kernel_rfl) (by simp) (AllReadyH.cons rfl (fun K hK => ?_) AllReadyH.nil)
  go_simp
  refine (HF1.out _).mono ?_
  rintro e V1 ⟨x1, y1, rfl, hx1, hy1, hbX⟩
  replace hb0 := hb0.trans (hbX.mono hb0.size)
  refine hK.out _ _ ⟨kA.later hb0, kB.later hb0⟩ (fun _ => ?_)
  clear hK K hbX
  refine wpAnyH_ready (rs := [3]) (by kernel_rfl) (by simp) (AllReadyH.cons rfl (fun K hK => ?_) AllReadyH.nil)
  go_simp
  refine (HF2.out _).mono ?_
  rintro e V3 ⟨x2, y2, rfl, hx2, hy2, hbX⟩
  replace hb0 := hb0.trans (hbX.mono hb0.size)
  replace hx1 := hx1.later hbX
  replace hy1 := hy1.later hbX
  refine hK.out _ _ ⟨kA.later hb0, kB.later hb0⟩ (fun _ => ?_)
  clear hK K hbX
  refine wpAnyH_ready (rs := [4]) (by kernel_rfl) (by simp) (AllReadyH.cons rfl (fun K hK => ?_) AllReadyH.nil)
  go_simp
  refine (HA.out _ _ _ _ _ hx1 hy1 hx2 hy2).mono ?_
  rintro e V4 ⟨rfl, hbX⟩
  replace hb0 := hb0.trans (hbX.mono hb0.size)
  refine hK.out _ _ ⟨kA.later hb0, kB.later hb0⟩ (fun _ => ?_)
  clear hK K hbX hx1 hy1 hx2 hy2
  refine wpAnyH_ready (rs := [5]) (by kernel_rfl) (by simp) (AllReadyH.cons rfl (fun K hK => ?_) AllReadyH.nil)
  go_simp
  refine hK.out _ _ ⟨kA.later hb0, kB.later hb0⟩ (fun _ => ?_)
  clear hK K
  refine wpAnyH_done (by kernel_rfl) ?_ _
  have hbz := hb1.trans (hb0.mono hsz)
  go_wp2_with fail
  go_ret
  exact ⟨rfl, by rw [HNe.out]; exact hbz⟩
set_option maxHeartbeats 16000000 in
theorem gearCmp_any (n1 d1 n2 d2 : Nat) (w : World) (o1 : FracOk n1 d1) (o2 : FracOk n2 d2) (b1 : n1 ≤ 32768) (b2 : d1 ≤ 32768) (b3 : n2 ≤ 32768) (b4 : d2 ≤ 32768) :
    Calls Tryz.prog 31 #[.agg #[.int .i64 (n1 : Int), .int .i64 (d1 : Int)], .agg #[.int .i64 (n2 : Int), .int .i64 (d2 : Int)]] w fun e w' => e = .returned (.tuple #[.int .i64 (cmpN (n1 * d2) (n2 * d1)), .int .i64 0]) ∧ Below w.heap.size w w' := by
  have HO : Hid (∀ V : World, _) := fun V => order_any n1 d1 n2 d2 V b1 b2 b3 b4 o1.1 o2.1
  generalize cmpN (n1 * d2) (n2 * d1) = cv at *
  have HO1 := Lib.hid o1
  have HO2 := Lib.hid o2
  clear b1 b2 b3 b4 o1 o2
  have e1 : (w.alloc (.cells #[.int .i64 (n1 : Int), .int .i64 (d1 : Int)] 30)).heap.size = w.heap.size + 1 := by simp
  have kA := (Blk.new w 30 #[.int .i64 (n1 : Int), .int .i64 (d1 : Int)]).alloc (.cells #[.int .i64 (n2 : Int), .int .i64 (d2 : Int)] 30)
  have kB := Blk.new (w.alloc (.cells #[.int .i64 (n1 : Int), .int .i64 (d1 : Int)] 30)) 30 #[.int .i64 (n2 : Int), .int .i64 (d2 : Int)]
  rw [e1] at kB
  have hb1 : Below w.heap.size w ((w.alloc (.cells #[.int .i64 (n1 : Int), .int .i64 (d1 : Int)] 30)).alloc (.cells #[.int .i64 (n2 : Int), .int .i64 (d2 : Int)] 30)) := ((Below.refl _ _).alloc (Nat.le_refl _) _).alloc (by simp) _
  clear e1
  go_enter Tryz.func31, Tryz.ntmps31
  go_upto_region 1 with fail
  have HALL := And.intro kA (And.intro kB hb1)
  clear kA kB hb1
  revert HALL
  generalize (w.alloc (.cells #[.int .i64 (n1 : Int), .int .i64 (d1 : Int)] 30)).alloc (.cells #[.int .i64 (n2 : Int), .int .i64 (d2 : Int)] 30) = w1
  generalize hNe : w.heap.size = N
  intro HALL
  obtain ⟨kA, kB, hb1⟩ := HALL
  have HNe := Lib.hid hNe
  have hsz := hb1.size
  rw [hNe] at hsz
  clear hNe
  have kS2 := Blk.new w1 30 #[.int .i64 (n1 : Int), .int .i64 (d1 : Int), .int .i64 (n2 : Int), .int .i64 (d2 : Int)]
  have hbn : Below w1.heap.size w1 (w1.alloc (.cells #[.int .i64 (n1 : Int), .int .i64 (d1 : Int), .int .i64 (n2 : Int), .int .i64 (d2 : Int)] 30)) := (Below.refl _ _).alloc (Nat.le_refl _) _
  have HV := Lib.hid (fvalid_any w1.heap.size 2 (w1.alloc (.cells #[.int .i64 (n1 : Int), .int .i64 (d1 : Int), .int .i64 (n2 : Int), .int .i64 (d2 : Int)] 30)) (by omega) (by simp) (fun k hk => by
    rcases (show k = 0 ∨ k = 1 by omega) with rfl | rfl
    · exact ⟨n1, d1, ⟨by rw [kS2.cell]; rfl, by rw [kS2.cell]; rfl⟩, HO1.out⟩
    · exact ⟨n2, d2, ⟨by rw [kS2.cell]; rfl, by rw [kS2.cell]; rfl⟩, HO2.out⟩))
  have cA := kA.cell
  have lA := kA.lt
  have cB := kB.cell
  have lB := kB.lt
  go_wp2_with fail
  refine HV.out.mono ?_
  rintro e wq ⟨rfl, hbv⟩
  have hb2 := hbn.trans (hbv.mono hbn.size)
  replace kA := kA.later hb2
  replace kB := kB.later hb2
  replace hb1 := hb1.trans (hb2.mono hsz)
  clear cA lA cB lB HV HO1 HO2 kS2 hbn hbv hb2
  have cA := kA.cell
  have lA := kA.lt
  have cB := kB.cell
  have lB := kB.lt
  go_wp2_with fail
  refine (HO.out _).mono ?_
  rintro e w5 ⟨rfl, hb5⟩
  have hbz := hb1.trans (hb5.mono (by have := hb1.size; rw [HNe.out] at this; exact this))
  go_wp2_with fail
  go_ret2
  exact ⟨rfl, by rw [HNe.out]; exact hbz⟩
end Go.Proofs.YtpklcjbdmikbdaaGreat
