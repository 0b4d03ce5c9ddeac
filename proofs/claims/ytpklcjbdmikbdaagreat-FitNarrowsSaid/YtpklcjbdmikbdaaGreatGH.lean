/-
  The seat's texts DigK DigL DigM in one: the contracts of the functions that the law reaches, and the plain laws that they rest on.
  Conditions: as each theorem states them.
-/
import Derived.Test.YtpklcjbdmikbdaaGreatGE
namespace Go.Proofs.YtpklcjbdmikbdaaGreat
set_option maxRecDepth 100000
open Go.RowKit

set_option maxHeartbeats 8000000 in
theorem neg_pos (A : Option Addr) (n c : Nat) (hn : 0 < n) (w : World) : Calls Tryz.prog 32 #[.agg #[.bool false, .slice A n c]] w fun e w' => e = .returned (.agg #[.bool true, .slice A n c]) ∧ Below w.heap.size w w' := by
  have hd : decide ((n : Int) > 0) = true := decide_eq_true (by omega)
  have e1 : (w.alloc (.cells #[.bool false, .slice A n c] 45)).heap.size = w.heap.size + 1 := by simp
  have kZ := (Blk.new w 45 #[.bool false, .slice A n c]).alloc (.cells #[.bool false, .slice none 0 0] 45)
  have kR := Blk.new (w.alloc (.cells #[.bool false, .slice A n c] 45)) 45 #[.bool false, .slice none 0 0]
  rw [e1] at kR
  have hb1 : Below w.heap.size w ((w.alloc (.cells #[.bool false, .slice A n c] 45)).alloc (.cells #[.bool false, .slice none 0 0] 45)) := ((Below.refl _ _).alloc (Nat.le_refl _) _).alloc (by simp) _
  clear e1
  go_enter Tryz.func32, Tryz.ntmps32
  go_upto_region 1 with fail
  have HALL := And.intro kZ (And.intro kR hb1)
  clear kZ kR hb1
  revert HALL
  generalize (w.alloc (.cells #[.bool false, .slice A n c] 45)).alloc (.cells #[.bool false, .slice none 0 0] 45) = w1
  generalize hNe : w.heap.size = N
  intro HALL
  obtain ⟨kZ, kR, hb1⟩ := HALL
  have HNe := Lib.hid hNe
  clear hNe
  have kZ2 : Blk _ N 45 #[.bool true, .slice A n c] := kZ.set_ 0 (.bool true)
  have kR2 : Blk _ (N + 1) 45 #[.bool false, .slice none 0 0] := kR.far (p := ⟨N, 0, none⟩) (show N + 1 ≠ N by omega) (.bool true)
  have hb2 := hb1.setCell (p := ⟨N, 0, none⟩) (Nat.le_refl _) (.bool true)
  have cZ := kZ.cell
  have fZ := kZ.frozen
  have lZ := kZ.lt
  have HALL := And.intro kZ2 (And.intro kR2 hb2)
  clear kZ2 kR2 hb2 kZ kR hb1
  go_upto_region 2 with fail
  clear cZ fZ lZ
  revert HALL
  generalize w1.setCell ⟨N, 0, none⟩ (.bool true) = w2
  intro HALL
  obtain ⟨kZ, kR, hb⟩ := HALL
  have cZ := kZ.cell
  have lZ := kZ.lt
  have cR := kR.cell
  have fR := kR.frozen
  have lR := kR.lt
  have hR1 : Blk _ (N + 1) 45 #[.bool true, .slice none 0 0] := kR.set_ 0 (.bool true)
  have hR2 : Blk _ (N + 1) 45 #[.bool true, .slice A n c] := hR1.set_ 1 (.slice A n c)
  have HB := Lib.hid ((hb.setCell (p := ⟨N + 1, 0, none⟩) (show N ≤ N + 1 by omega) (.bool true)).setCell (p := ⟨N + 1, 1, none⟩) (show N ≤ N + 1 by omega) (.slice A n c))
  have HR2 := Lib.hid hR2
  clear hR1 hR2 kZ kR hb
  go_wp2_with fail
  refine bodyPost_cell (N + 1) 45 #[.bool true, .slice A n c] (.agg #[.bool true, .slice A n c]) HR2.out ?_ ⟨rfl, by rw [HNe.out]; exact HB.out⟩
  intro W' hW'
  simp [results, Tryz.results32, go_sem, hW']
set_option maxHeartbeats 8000000 in
theorem neg_zero (A : Option Addr) (c : Nat) (w : World) : Calls Tryz.prog 32 #[.agg #[.bool false, .slice A 0 c]] w fun e w' => e = .returned (.agg #[.bool false, .slice A 0 c]) ∧ Below w.heap.size w w' := by
  have e1 : (w.alloc (.cells #[.bool false, .slice A 0 c] 45)).heap.size = w.heap.size + 1 := by simp
  have kZ := (Blk.new w 45 #[.bool false, .slice A 0 c]).alloc (.cells #[.bool false, .slice none 0 0] 45)
  have kR := Blk.new (w.alloc (.cells #[.bool false, .slice A 0 c] 45)) 45 #[.bool false, .slice none 0 0]
  rw [e1] at kR
  have hb1 : Below w.heap.size w ((w.alloc (.cells #[.bool false, .slice A 0 c] 45)).alloc (.cells #[.bool false, .slice none 0 0] 45)) := ((Below.refl _ _).alloc (Nat.le_refl _) _).alloc (by simp) _
  clear e1
  go_enter Tryz.func32, Tryz.ntmps32
  go_upto_region 1 with fail
  have HALL := And.intro kZ (And.intro kR hb1)
  clear kZ kR hb1
  revert HALL
  generalize (w.alloc (.cells #[.bool false, .slice A 0 c] 45)).alloc (.cells #[.bool false, .slice none 0 0] 45) = w1
  generalize hNe : w.heap.size = N
  intro HALL
  obtain ⟨kZ, kR, hb1⟩ := HALL
  have HNe := Lib.hid hNe
  clear hNe
  have kZ2 : Blk _ N 45 #[.bool false, .slice A 0 c] := kZ.set_ 0 (.bool false)
  have kR2 : Blk _ (N + 1) 45 #[.bool false, .slice none 0 0] := kR.far (p := ⟨N, 0, none⟩) (show N + 1 ≠ N by omega) (.bool false)
  have hb2 := hb1.setCell (p := ⟨N, 0, none⟩) (Nat.le_refl _) (.bool false)
  have cZ := kZ.cell
  have fZ := kZ.frozen
  have lZ := kZ.lt
  have HALL := And.intro kZ2 (And.intro kR2 hb2)
  clear kZ2 kR2 hb2 kZ kR hb1
  go_upto_region 2 with fail
  clear cZ fZ lZ
  revert HALL
  generalize w1.setCell ⟨N, 0, none⟩ (.bool false) = w2
  intro HALL
  obtain ⟨kZ, kR, hb⟩ := HALL
  have cZ := kZ.cell
  have lZ := kZ.lt
  have cR := kR.cell
  have fR := kR.frozen
  have lR := kR.lt
  have hR1 : Blk _ (N + 1) 45 #[.bool false, .slice none 0 0] := kR.set_ 0 (.bool false)
  have hR2 : Blk _ (N + 1) 45 #[.bool false, .slice A 0 c] := hR1.set_ 1 (.slice A 0 c)
  have HB := Lib.hid ((hb.setCell (p := ⟨N + 1, 0, none⟩) (show N ≤ N + 1 by omega) (.bool false)).setCell (p := ⟨N + 1, 1, none⟩) (show N ≤ N + 1 by omega) (.slice A 0 c))
  have HR2 := Lib.hid hR2
  clear hR1 hR2 kZ kR hb
  go_wp2_with fail
  refine bodyPost_cell (N + 1) 45 #[.bool false, .slice A 0 c] (.agg #[.bool false, .slice A 0 c]) HR2.out ?_ ⟨rfl, by rw [HNe.out]; exact HB.out⟩
  intro W' hW'
  simp [results, Tryz.results32, go_sem, hW']
set_option maxHeartbeats 4000000 in
theorem sign_pos (A : Option Addr) (n c : Nat) (hn : 0 < n) (w : World) : Calls Tryz.prog 51 #[.agg #[.bool false, .slice A n c]] w fun e w' => e = .returned (.int .i64 1) ∧ Below w.heap.size w w' := by
  have hd : ((n : Int) == 0) = false := by simp; omega
  have hd' : ¬ n = 0 := by omega
  have hb1 : Below w.heap.size w (w.alloc (.cells #[.bool false, .slice A n c] 45)) := (Below.refl _ _).alloc (Nat.le_refl _) _
  have k1 := Blk.new w 45 #[.bool false, .slice A n c]
  have cA := k1.cell
  have lA := k1.lt
  go_enter Tryz.func51, Tryz.ntmps51
  go_wp2_with fail
  go_ret
  exact ⟨rfl, hb1⟩
set_option maxHeartbeats 4000000 in
theorem sign_neg (A : Option Addr) (n c : Nat) (hn : 0 < n) (w : World) : Calls Tryz.prog 51 #[.agg #[.bool true, .slice A n c]] w fun e w' => e = .returned (.int .i64 (-1)) ∧ Below w.heap.size w w' := by
  have hd : ((n : Int) == 0) = false := by simp; omega
  have hd' : ¬ n = 0 := by omega
  have hb1 : Below w.heap.size w (w.alloc (.cells #[.bool true, .slice A n c] 45)) := (Below.refl _ _).alloc (Nat.le_refl _) _
  have k1 := Blk.new w 45 #[.bool true, .slice A n c]
  have cA := k1.cell
  have lA := k1.lt
  go_enter Tryz.func51, Tryz.ntmps51
  go_wp2_with fail
  go_ret
  exact ⟨rfl, hb1⟩
set_option maxHeartbeats 4000000 in
theorem sign_zero (A : Option Addr) (c : Nat) (w : World) : Calls Tryz.prog 51 #[.agg #[.bool false, .slice A 0 c]] w fun e w' => e = .returned (.int .i64 0) ∧ Below w.heap.size w w' := by
  have hb1 : Below w.heap.size w (w.alloc (.cells #[.bool false, .slice A 0 c] 45)) := (Below.refl _ _).alloc (Nat.le_refl _) _
  have k1 := Blk.new w 45 #[.bool false, .slice A 0 c]
  have cA := k1.cell
  have lA := k1.lt
  go_enter Tryz.func51, Tryz.ntmps51
  go_wp2_with fail
  go_ret
  exact ⟨rfl, hb1⟩
set_option maxHeartbeats 16000000 in
theorem plus_nil (va : Value) (B : Option Addr) (cb a : Nat) (w : World) (ha : MagD w va a) (la : (digs a).length ≤ 1000) : Calls Tryz.prog 90 #[va, .slice B 0 cb] w (RowD w a) := by
  obtain ⟨A, c, rfl, rA, _⟩ := ha
  have HA : Hid (vad (digs a) = a) := vad_digs a
  have HDA : Hid (Digit (digs a)) := digs_digit a
  generalize digs a = p at *
  obtain ⟨n, hn⟩ : ∃ n, p.length = n := ⟨_, rfl⟩
  have HN := Lib.hid hn
  rw [hn] at rA la ⊢
  have HRA := Lib.hid rA
  have HM0 : Hid ((w.alloc (.cells #[] 3)).ownsRow w.heap.size 3 1 (.slice (some ⟨w.heap.size, 0, none⟩) 0 0) 0 ((dI []).map (Value.int .i64))) := World.ownsRow_made (base := w.heap.size) (e := 3) (size := 1) w #[] 0 (Nat.le_refl _) (by unfold maxLen; omega) (by simp)
  have HB0 : Hid (Below w.heap.size w (w.alloc (.cells #[] 3))) := (Below.refl _ _).alloc (Nat.le_refl _) _
  clear rA hn
  go_enter Tryz.func90, Tryz.ntmps90
  go_upto_region 2 with fail
  revert HM0 HB0
  generalize w.alloc (.cells #[] 3) = w1
  generalize hNe : w.heap.size = N
  intro HM0 HB0
  have HNe := Lib.hid hNe
  clear hNe
  go_wp2_with fail
  go_loopw [5, 6, 7] (fun ov bv iv wr => ∃ k : Nat, k ≤ n ∧ iv = .int .i64 (k : Int) ∧ bv = .int .i64 0 ∧ wr.ownsRow N 3 1 ov k ((dI (p.take k)).map (Value.int .i64)) ∧ Below N w wr) (fun _ _ iv _ => n - (intOf iv).toNat)
  case atStart => exact ⟨0, Nat.zero_le _, rfl, rfl, HM0.out, HB0.out⟩
  case round =>
    clear HM0 HB0
    obtain ⟨k, hk, rfl, rfl, hown, hbl⟩ := hrel
    obtain ⟨wq, hwq⟩ : ∃ x, x = wr := ⟨_, rfl⟩
    subst hwq
    obtain ⟨A3, c3, rfl⟩ := own_slice hown
    have hbl2 : Below w.heap.size w wq := by rw [HNe.out]; exact hbl
    by_cases hlt : k < n
    · have hd : decide ((k : Int) < (n : Int)) = true := decide_eq_true (by omega)
      have hd' : decide (k < n) = true := decide_eq_true hlt
      have hkni : (k : Int) < (n : Int) := by omega
      have hk0 : ¬ (k : Int) < 0 := by omega
      obtain ⟨x, hx⟩ : ∃ x, p[k]? = some x := ⟨_, List.getElem?_eq_getElem (by rw [HN.out]; omega)⟩
      obtain ⟨g1, rfl, hg1, c1⟩ := (HRA.out.later hbl2).at_ (k := k) hlt
      rw [dI_get hx] at c1
      have hx4 : x < 10000 := HDA.out x (List.mem_of_getElem? hx)
      have HTK : Hid (p.take (k + 1) = p.take k ++ [x]) := by show _ = _; rw [List.take_add_one, hx]; rfl
      have htm : Int.tmod (x : Int) 10000 = (x : Int) := by rw [Int.tmod_eq_emod_of_nonneg (by omega)]; omega
      have htd : Int.tdiv (x : Int) 10000 = 0 := by rw [Int.tdiv_eq_ediv_of_nonneg (by omega)]; omega
      have hba : Below wq.heap.size wq (wq.alloc (.cells #[.int .i64 (x : Int)] 3)) := (Below.refl _ _).alloc (Nat.le_refl _) _
      have HOWN := Lib.hid (own_later hown hba)
      have HROW : Hid (RowI (wq.alloc (.cells #[.int .i64 (x : Int)] 3)) (some ⟨wq.heap.size, 0, none⟩) 1 [(x : Int)]) := (RowH.of_row (RowB.of (l := [(x : Int)]) (by simpa [rowc] using Blk.new wq 3 #[.int .i64 (x : Int)])) rfl).rowI
      have hsN : N ≤ wq.heap.size := by have := hbl2.size; rw [HNe.out] at this; exact this
      have HB2 := Lib.hid (hbl.trans (hba.mono hsN))
      have HSQ : Hid (N ≤ (wq.alloc (.cells #[.int .i64 (x : Int)] 3)).heap.size) := by show _ ≤ _; simp; omega
      clear hown hba hbl hbl2 hx
      go_wp2_with (at_builtin; refine app_ints _ rfl (.tmp 47) (.tmp 50) rfl N (.slice A3 k c3) k (dI (p.take k)) rfl HOWN.out (some ⟨wq.heap.size, 0, none⟩) 1 1 [(x : Int)] rfl HROW.out (by omega) HSQ.out ?_)
      all_goals
        intro v5 w5 hown5 hgr5
        have hown6 : Hid (w5.ownsRow N 3 1 v5 (k + 1) ((dI (p.take (k + 1))).map (Value.int .i64))) := by
          show World.ownsRow _ _ _ _ _ _ _
          rw [HTK.out, dI_app, List.map_append]
          exact hown5
        have hb5 := Lib.hid (HB2.out.grown hgr5 HSQ.out (fun q hq => (World.ownsRow.lt HOWN.out q hq).1))
        clear hown5 hgr5 HOWN HROW HB2
        go_wp2_with fail
        go_roundw
        case rel => exact ⟨k + 1, by omega, by go_num, rfl, hown6.out, hb5.out⟩
        case measure => simp [intOf] <;> omega
    · obtain rfl : k = n := by omega
      have hd : decide ((k : Int) < (k : Int)) = false := decide_eq_false (by omega)
      have hk0 : ¬ (k : Int) < 0 := by omega
      have HT : Hid (p.take k = p) := by show _ = _; rw [← HN.out, List.take_length]
      rw [HT.out] at hown
      have HROW := Lib.hid (own_rowH hown)
      have hcap : Hid (k ≤ c3) := by
        show _ ≤ _
        rcases hown.2 with ⟨h1, _⟩ | ⟨g', cap, cur, h1, _, _, h2, _⟩
        · injection h1; omega
        · injection h1; omega
      clear hown
      go_wp2_with fail
      go_ret
      exact ⟨A3, k, c3, p, rfl, HROW.out, HDA.out, HN.out, HA.out, hcap.out, la, hbl2⟩
end Go.Proofs.YtpklcjbdmikbdaaGreat
namespace Go.Proofs.YtpklcjbdmikbdaaGreat
set_option maxRecDepth 100000
open Go.RowKit

set_option maxHeartbeats 16000000 in
theorem add_same (va : Value) (B : Option Addr) (cb a : Nat) (w : World) (ha : MagD w va a) (la : (digs a).length ≤ 1000) : Calls Tryz.prog 75 #[.agg #[.bool false, va], .agg #[.bool false, .slice B 0 cb]] w (ZR w false a) := by
  have HP : Hid (∀ V, Below w.heap.size w V → Calls Tryz.prog 90 #[va, .slice B 0 cb] V (RowD V a)) := fun V h => plus_nil va B cb a V (ha.later h) la
  obtain ⟨A, n, ca, rfl⟩ := ha.form
  obtain ⟨p, hp⟩ : ∃ p, p = a := ⟨_, rfl⟩
  rw [← hp] at HP ⊢
  clear hp ha
  have e3 : ((w.alloc (.cells #[.bool false, .slice A n ca] 45)).alloc (.cells #[.bool false, .slice B 0 cb] 45)).heap.size = w.heap.size + 2 := by simp
  have e1 : (w.alloc (.cells #[.bool false, .slice A n ca] 45)).heap.size = w.heap.size + 1 := by simp
  have kA := ((Blk.new w 45 #[.bool false, .slice A n ca]).alloc (.cells #[.bool false, .slice B 0 cb] 45)).alloc (.cells #[.bool false, .slice none 0 0] 45)
  have kB := (Blk.new (w.alloc (.cells #[.bool false, .slice A n ca] 45)) 45 #[.bool false, .slice B 0 cb]).alloc (.cells #[.bool false, .slice none 0 0] 45)
  have kR := Blk.new ((w.alloc (.cells #[.bool false, .slice A n ca] 45)).alloc (.cells #[.bool false, .slice B 0 cb] 45)) 45 #[.bool false, .slice none 0 0]
  rw [e1] at kB
  rw [e3] at kR
  have hb1 : Below w.heap.size w (((w.alloc (.cells #[.bool false, .slice A n ca] 45)).alloc (.cells #[.bool false, .slice B 0 cb] 45)).alloc (.cells #[.bool false, .slice none 0 0] 45)) :=
    (((Below.refl _ _).alloc (Nat.le_refl _) _).alloc (by simp) _).alloc (by simp; omega) _
  clear e1 e3
  go_enter Tryz.func75, Tryz.ntmps75
  go_upto_region 1 with fail
  revert kA kB kR hb1
  generalize ((w.alloc (.cells #[.bool false, .slice A n ca] 45)).alloc (.cells #[.bool false, .slice B 0 cb] 45)).alloc (.cells #[.bool false, .slice none 0 0] 45) = wq
  generalize hNe : w.heap.size = N
  intro kA kB kR hb1
  have HNe := Lib.hid hNe
  have hsz := hb1.size
  rw [hNe] at hsz
  clear hNe
  have lR := kR.lt
  have cA := kA.cell
  have lA := kA.lt
  have cB := kB.cell
  have lB := kB.lt
  have hbe : ((false : Bool) == false) = true := rfl
  go_upto_region 2 with fail
  clear cA lA cB lB
  refine held_var (S := fun V => Blk V N 45 #[.bool false, .slice A n ca] ∧ Blk V (N + 1) 45 #[.bool false, .slice B 0 cb]) (by kernel_rfl) ⟨kA.drew, kB.drew⟩ (fun V0 hV0 hS0 => ?_)
  have hb0 : Below wq.heap.size wq V0 := by rw [hV0]; exact (Below.refl _ _).drew
  clear hV0
  refine wpAnyH_take (i := 0) (v := ?_) rfl (by kernel_rfl) (by kernel_rfl) (by kernel_rfl) (fun _ _ _ h => h) (Or.inl ⟨by rfl, ?hy⟩) (by assumption) ?_
  case hy => (intro w hSw; have cA := hSw.1.cell; have lA := hSw.1.lt; have cB := hSw.2.cell; have lB := hSw.2.lt; clear hSw; go_simp; try with_reducible rfl)
  refine wpAnyH_take (i := 1) (v := ?_) rfl (by kernel_rfl) (by kernel_rfl) (by kernel_rfl) (fun _ _ _ h => h) (Or.inl ⟨by rfl, ?hy⟩) (by assumption) ?_
  case hy => (intro w hSw; have cA := hSw.1.cell; have lA := hSw.1.lt; have cB := hSw.2.cell; have lB := hSw.2.lt; clear hSw; go_simp; try with_reducible rfl)
  refine wpAnyH_take (i := 2) (v := ?_) rfl (by kernel_rfl) (by kernel_rfl) (by kernel_rfl) (fun _ _ _ h => h) (Or.inl ⟨by rfl, ?hy⟩) (by assumption) ?_
  case hy => (intro w hSw; have cA := hSw.1.cell; have lA := hSw.1.lt; have cB := hSw.2.cell; have lB := hSw.2.lt; clear hSw; go_simp; try with_reducible rfl)
  refine wpAnyH_take (i := 3) (v := ?_) rfl (by kernel_rfl) (by kernel_rfl) (by kernel_rfl) (fun _ _ _ h => h) (Or.inl ⟨by rfl, ?hy⟩) (by assumption) ?_
  case hy => (intro w hSw; have cA := hSw.1.cell; have lA := hSw.1.lt; have cB := hSw.2.cell; have lB := hSw.2.lt; clear hSw; go_simp; try with_reducible rfl)
  simp only [Act.put, List.getElem_toArray, List.getElem_cons_succ, List.getElem_cons_zero, List.setIfInBounds_toArray, List.set_cons_succ, List.set_cons_zero]
  refine wpAnyH_take (i := 4) (v := ?_) rfl (by kernel_rfl) (by kernel_rfl) (by kernel_rfl) (fun _ _ _ h => h) (Or.inl ⟨by rfl, ?hy⟩) (by assumption) ?_
  case hy => (intro w hSw; have cA := hSw.1.cell; have lA := hSw.1.lt; have cB := hSw.2.cell; have lB := hSw.2.lt; clear hSw; go_simp; try with_reducible rfl)
  refine wpAnyH_take (i := 5) (v := ?_) rfl (by kernel_rfl) (by kernel_rfl) (by kernel_rfl) (fun _ _ _ h => h) (Or.inl ⟨by rfl, ?hy⟩) (by assumption) ?_
  case hy => (intro w hSw; have cA := hSw.1.cell; have lA := hSw.1.lt; have cB := hSw.2.cell; have lB := hSw.2.lt; clear hSw; go_simp; try with_reducible rfl)
  simp only [Act.put, List.getElem_toArray, List.getElem_cons_succ, List.getElem_cons_zero, List.setIfInBounds_toArray, List.set_cons_succ, List.set_cons_zero]
  refine wpAnyH_ready (rs := [6]) (by kernel_rfl) (by simp) (AllReadyH.cons rfl (fun K hK => ?_) AllReadyH.nil)
  go_simp
  refine (HP.out V0 (by rw [HNe.out]; exact hb1.trans (hb0.mono hsz))).mono ?_
  rintro e w5 ⟨A5, n5, c5, o5, rfl, hrow5, hdig5, hlen5, hvad5, hcap5, hn5, hb5⟩
  have hb6 := hb0.trans (hb5.mono hb0.size)
  refine hK.out _ _ ⟨kA.later hb6, kB.later hb6⟩ (fun _ => ?_)
  clear hK K HP
  refine wpAnyH_take (i := 7) (v := ?_) rfl (by kernel_rfl) (by kernel_rfl) (by kernel_rfl) (fun _ _ _ h => h) (Or.inl ⟨by rfl, ?hy⟩) (by assumption) ?_
  case hy => (intro w hSw; have cA := hSw.1.cell; have lA := hSw.1.lt; have cB := hSw.2.cell; have lB := hSw.2.lt; clear hSw; go_simp; try with_reducible rfl)
  simp only [Act.put, List.getElem_toArray, List.getElem_cons_succ, List.getElem_cons_zero, List.setIfInBounds_toArray, List.set_cons_succ, List.set_cons_zero]
  refine wpAnyH_ready (rs := [8]) (by kernel_rfl) (by simp) (AllReadyH.cons rfl (fun K hK => ?_) AllReadyH.nil)
  go_simp
  have HL := lean_any A5 n5 c5 o5 false w5 hrow5 hdig5 hn5 hcap5
  rw [hvad5] at HL
  refine HL.mono ?_
  rintro e w7 ⟨v7, rfl, hv7, hb7⟩
  obtain ⟨A7, n7, c7, rfl⟩ := hv7.form
  obtain ⟨sg, hsg⟩ : ∃ sg, sg = (false && decide (0 < p)) := ⟨_, rfl⟩
  rw [← hsg]
  have HSG := Lib.hid hsg
  have hbz := hb6.trans (hb7.mono hb6.size)
  refine hK.out _ _ ⟨kA.later hbz, kB.later hbz⟩ (fun _ => ?_)
  clear hK K HL hsg hrow5 hdig5 hlen5 hvad5 hcap5 hn5 hb5 hb7
  have hR0 : Blk w7 (N + 2) 45 #[.bool false, .slice none 0 0] := kR.later hbz
  have hR1 : Blk _ (N + 2) 45 #[.bool sg, .slice none 0 0] := hR0.set_ 0 (.bool sg)
  have hR2 : Blk _ (N + 2) 45 #[.bool sg, .slice A7 n7 c7] := hR1.set_ 1 (.slice A7 n7 c7)
  have hA2 := ((kA.later hbz).far (p := ⟨N + 2, 0, none⟩) (show N ≠ N + 2 by omega) (.bool sg)).far (p := ⟨N + 2, 1, none⟩) (show N ≠ N + 2 by omega) (.slice A7 n7 c7)
  have hB2 := ((kB.later hbz).far (p := ⟨N + 2, 0, none⟩) (show N + 1 ≠ N + 2 by omega) (.bool sg)).far (p := ⟨N + 2, 1, none⟩) (show N + 1 ≠ N + 2 by omega) (.slice A7 n7 c7)
  have HM := Lib.hid ((hv7.far (r := [.slice none 0 0]) hR0 (p := ⟨N + 2, 0, none⟩) rfl (.bool sg)).far (r := [.slice none 0 0]) hR1 (p := ⟨N + 2, 1, none⟩) rfl (.slice A7 n7 c7))
  have HB := Lib.hid (((hb1.trans (hbz.mono hsz)).setCell (p := ⟨N + 2, 0, none⟩) (show N ≤ N + 2 by omega) (.bool sg)).setCell (p := ⟨N + 2, 1, none⟩) (show N ≤ N + 2 by omega) (.slice A7 n7 c7))
  have HR2 := Lib.hid hR2
  have HE := Lib.hid (And.intro hA2 hB2)
  have cR := hR0.cell
  have fR := hR0.frozen
  have lR8 := hR0.lt
  have cR1 := hR1.cell
  have fR1 := hR1.frozen
  clear hR0 hR1 hR2 hA2 hB2 hv7 hbz hb6 kA kB kR hb1
  refine wpAnyH_ready (rs := [9]) (by kernel_rfl) (by simp) (AllReadyH.cons rfl (fun K hK => ?_) AllReadyH.nil)
  go_simp
  refine hK.out _ _ HE.out (fun _ => ?_)
  clear hK K
  refine wpAnyH_done (by kernel_rfl) ?_ _
  go_wp2_with fail
  refine bodyPost_cell (N + 2) 45 #[.bool sg, .slice A7 n7 c7] (.agg #[.bool sg, .slice A7 n7 c7]) HR2.out ?_ ⟨_, by rw [HSG.out], HM.out, by rw [HNe.out]; exact HB.out⟩
  intro W' hW'
  simp [results, Tryz.results75, go_sem, hW']
set_option maxHeartbeats 16000000 in
theorem add_ge (va vb : Value) (a b : Nat) (w : World) (ha : MagD w va a) (hb : MagD w vb b) (la : (digs a).length ≤ 1000) (lb : (digs b).length ≤ 1000) (hab : b ≤ a) : Calls Tryz.prog 75 #[.agg #[.bool false, va], .agg #[.bool true, vb]] w (ZR w false (a - b)) := by
  have HP : Hid (∀ V, Below w.heap.size w V → Calls Tryz.prog 87 #[va, vb] V (RowD V (a - b))) := fun V h => less_any va vb a b V (ha.later h) (hb.later h) la hab
  have HS : Hid (∀ V, Below w.heap.size w V → Calls Tryz.prog 70 #[va, vb] V fun e w' => e = .returned (.int .i64 (cmpN a b)) ∧ Below V.heap.size V w') := fun V h => sizes_any va vb a b V (ha.later h) (hb.later h) la lb
  obtain ⟨A, n, ca, rfl⟩ := ha.form
  obtain ⟨B, m, cb, rfl⟩ := hb.form
  have hcv : 0 ≤ cmpN a b := by unfold cmpN; split <;> (try split) <;> omega
  generalize cmpN a b = cv at HS hcv
  have hdc : decide (cv ≥ 0) = true := decide_eq_true hcv
  have hdc' : decide (0 ≤ cv) = true := decide_eq_true hcv
  obtain ⟨p, hp⟩ : ∃ p, p = (a - b) := ⟨_, rfl⟩
  rw [← hp] at HP ⊢
  clear hp ha hb hab
  have e3 : ((w.alloc (.cells #[.bool false, .slice A n ca] 45)).alloc (.cells #[.bool true, .slice B m cb] 45)).heap.size = w.heap.size + 2 := by simp
  have e1 : (w.alloc (.cells #[.bool false, .slice A n ca] 45)).heap.size = w.heap.size + 1 := by simp
  have kA := ((Blk.new w 45 #[.bool false, .slice A n ca]).alloc (.cells #[.bool true, .slice B m cb] 45)).alloc (.cells #[.bool false, .slice none 0 0] 45)
  have kB := (Blk.new (w.alloc (.cells #[.bool false, .slice A n ca] 45)) 45 #[.bool true, .slice B m cb]).alloc (.cells #[.bool false, .slice none 0 0] 45)
  have kR := Blk.new ((w.alloc (.cells #[.bool false, .slice A n ca] 45)).alloc (.cells #[.bool true, .slice B m cb] 45)) 45 #[.bool false, .slice none 0 0]
  rw [e1] at kB
  rw [e3] at kR
  have hb1 : Below w.heap.size w (((w.alloc (.cells #[.bool false, .slice A n ca] 45)).alloc (.cells #[.bool true, .slice B m cb] 45)).alloc (.cells #[.bool false, .slice none 0 0] 45)) :=
    (((Below.refl _ _).alloc (Nat.le_refl _) _).alloc (by simp) _).alloc (by simp; omega) _
  clear e1 e3
  go_enter Tryz.func75, Tryz.ntmps75
  go_upto_region 1 with fail
  revert kA kB kR hb1
  generalize ((w.alloc (.cells #[.bool false, .slice A n ca] 45)).alloc (.cells #[.bool true, .slice B m cb] 45)).alloc (.cells #[.bool false, .slice none 0 0] 45) = wq
  generalize hNe : w.heap.size = N
  intro kA kB kR hb1
  have HNe := Lib.hid hNe
  have hsz := hb1.size
  rw [hNe] at hsz
  clear hNe
  have lR := kR.lt
  have cA := kA.cell
  have lA := kA.lt
  have cB := kB.cell
  have lB := kB.lt
  have hbe : ((false : Bool) == true) = false := rfl
  go_wp2_with fail
  refine (HS.out wq (by rw [HNe.out]; exact hb1)).mono ?_
  rintro e w9 ⟨rfl, hb9⟩
  replace kA := kA.later hb9
  replace kB := kB.later hb9
  replace kR := kR.later hb9
  replace hb1 := hb1.trans (hb9.mono hsz)
  replace hsz := Nat.le_trans hsz hb9.size
  clear cA lA cB lB lR HS hb9
  have lR := kR.lt
  obtain ⟨wq, hwq⟩ : ∃ x, x = w9 := ⟨_, rfl⟩
  subst hwq
  go_upto_region 4 with fail
  refine held_var (S := fun V => Blk V N 45 #[.bool false, .slice A n ca] ∧ Blk V (N + 1) 45 #[.bool true, .slice B m cb]) (by kernel_rfl) ⟨kA.drew, kB.drew⟩ (fun V0 hV0 hS0 => ?_)
  have hb0 : Below wq.heap.size wq V0 := by rw [hV0]; exact (Below.refl _ _).drew
  clear hV0
  refine wpAnyH_take (i := 0) (v := ?_) rfl (by kernel_rfl) (by kernel_rfl) (by kernel_rfl) (fun _ _ _ h => h) (Or.inl ⟨by rfl, ?hy⟩) (by assumption) ?_
  case hy => (intro w hSw; have cA := hSw.1.cell; have lA := hSw.1.lt; have cB := hSw.2.cell; have lB := hSw.2.lt; clear hSw; go_simp; try with_reducible rfl)
  refine wpAnyH_take (i := 1) (v := ?_) rfl (by kernel_rfl) (by kernel_rfl) (by kernel_rfl) (fun _ _ _ h => h) (Or.inl ⟨by rfl, ?hy⟩) (by assumption) ?_
  case hy => (intro w hSw; have cA := hSw.1.cell; have lA := hSw.1.lt; have cB := hSw.2.cell; have lB := hSw.2.lt; clear hSw; go_simp; try with_reducible rfl)
  refine wpAnyH_take (i := 2) (v := ?_) rfl (by kernel_rfl) (by kernel_rfl) (by kernel_rfl) (fun _ _ _ h => h) (Or.inl ⟨by rfl, ?hy⟩) (by assumption) ?_
  case hy => (intro w hSw; have cA := hSw.1.cell; have lA := hSw.1.lt; have cB := hSw.2.cell; have lB := hSw.2.lt; clear hSw; go_simp; try with_reducible rfl)
  refine wpAnyH_take (i := 3) (v := ?_) rfl (by kernel_rfl) (by kernel_rfl) (by kernel_rfl) (fun _ _ _ h => h) (Or.inl ⟨by rfl, ?hy⟩) (by assumption) ?_
  case hy => (intro w hSw; have cA := hSw.1.cell; have lA := hSw.1.lt; have cB := hSw.2.cell; have lB := hSw.2.lt; clear hSw; go_simp; try with_reducible rfl)
  simp only [Act.put, List.getElem_toArray, List.getElem_cons_succ, List.getElem_cons_zero, List.setIfInBounds_toArray, List.set_cons_succ, List.set_cons_zero]
  refine wpAnyH_take (i := 4) (v := ?_) rfl (by kernel_rfl) (by kernel_rfl) (by kernel_rfl) (fun _ _ _ h => h) (Or.inl ⟨by rfl, ?hy⟩) (by assumption) ?_
  case hy => (intro w hSw; have cA := hSw.1.cell; have lA := hSw.1.lt; have cB := hSw.2.cell; have lB := hSw.2.lt; clear hSw; go_simp; try with_reducible rfl)
  refine wpAnyH_take (i := 5) (v := ?_) rfl (by kernel_rfl) (by kernel_rfl) (by kernel_rfl) (fun _ _ _ h => h) (Or.inl ⟨by rfl, ?hy⟩) (by assumption) ?_
  case hy => (intro w hSw; have cA := hSw.1.cell; have lA := hSw.1.lt; have cB := hSw.2.cell; have lB := hSw.2.lt; clear hSw; go_simp; try with_reducible rfl)
  simp only [Act.put, List.getElem_toArray, List.getElem_cons_succ, List.getElem_cons_zero, List.setIfInBounds_toArray, List.set_cons_succ, List.set_cons_zero]
  refine wpAnyH_ready (rs := [6]) (by kernel_rfl) (by simp) (AllReadyH.cons rfl (fun K hK => ?_) AllReadyH.nil)
  go_simp
  refine (HP.out V0 (by rw [HNe.out]; exact hb1.trans (hb0.mono hsz))).mono ?_
  rintro e w5 ⟨A5, n5, c5, o5, rfl, hrow5, hdig5, hlen5, hvad5, hcap5, hn5, hb5⟩
  have hb6 := hb0.trans (hb5.mono hb0.size)
  refine hK.out _ _ ⟨kA.later hb6, kB.later hb6⟩ (fun _ => ?_)
  clear hK K HP
  refine wpAnyH_take (i := 7) (v := ?_) rfl (by kernel_rfl) (by kernel_rfl) (by kernel_rfl) (fun _ _ _ h => h) (Or.inl ⟨by rfl, ?hy⟩) (by assumption) ?_
  case hy => (intro w hSw; have cA := hSw.1.cell; have lA := hSw.1.lt; have cB := hSw.2.cell; have lB := hSw.2.lt; clear hSw; go_simp; try with_reducible rfl)
  simp only [Act.put, List.getElem_toArray, List.getElem_cons_succ, List.getElem_cons_zero, List.setIfInBounds_toArray, List.set_cons_succ, List.set_cons_zero]
  refine wpAnyH_ready (rs := [8]) (by kernel_rfl) (by simp) (AllReadyH.cons rfl (fun K hK => ?_) AllReadyH.nil)
  go_simp
  have HL := lean_any A5 n5 c5 o5 false w5 hrow5 hdig5 hn5 hcap5
  rw [hvad5] at HL
  refine HL.mono ?_
  rintro e w7 ⟨v7, rfl, hv7, hb7⟩
  obtain ⟨A7, n7, c7, rfl⟩ := hv7.form
  obtain ⟨sg, hsg⟩ : ∃ sg, sg = (false && decide (0 < p)) := ⟨_, rfl⟩
  rw [← hsg]
  have HSG := Lib.hid hsg
  have hbz := hb6.trans (hb7.mono hb6.size)
  refine hK.out _ _ ⟨kA.later hbz, kB.later hbz⟩ (fun _ => ?_)
  clear hK K HL hsg hrow5 hdig5 hlen5 hvad5 hcap5 hn5 hb5 hb7
  have hR0 : Blk w7 (N + 2) 45 #[.bool false, .slice none 0 0] := kR.later hbz
  have hR1 : Blk _ (N + 2) 45 #[.bool sg, .slice none 0 0] := hR0.set_ 0 (.bool sg)
  have hR2 : Blk _ (N + 2) 45 #[.bool sg, .slice A7 n7 c7] := hR1.set_ 1 (.slice A7 n7 c7)
  have hA2 := ((kA.later hbz).far (p := ⟨N + 2, 0, none⟩) (show N ≠ N + 2 by omega) (.bool sg)).far (p := ⟨N + 2, 1, none⟩) (show N ≠ N + 2 by omega) (.slice A7 n7 c7)
  have hB2 := ((kB.later hbz).far (p := ⟨N + 2, 0, none⟩) (show N + 1 ≠ N + 2 by omega) (.bool sg)).far (p := ⟨N + 2, 1, none⟩) (show N + 1 ≠ N + 2 by omega) (.slice A7 n7 c7)
  have HM := Lib.hid ((hv7.far (r := [.slice none 0 0]) hR0 (p := ⟨N + 2, 0, none⟩) rfl (.bool sg)).far (r := [.slice none 0 0]) hR1 (p := ⟨N + 2, 1, none⟩) rfl (.slice A7 n7 c7))
  have HB := Lib.hid (((hb1.trans (hbz.mono hsz)).setCell (p := ⟨N + 2, 0, none⟩) (show N ≤ N + 2 by omega) (.bool sg)).setCell (p := ⟨N + 2, 1, none⟩) (show N ≤ N + 2 by omega) (.slice A7 n7 c7))
  have HR2 := Lib.hid hR2
  have HE := Lib.hid (And.intro hA2 hB2)
  have cR := hR0.cell
  have fR := hR0.frozen
  have lR8 := hR0.lt
  have cR1 := hR1.cell
  have fR1 := hR1.frozen
  clear hR0 hR1 hR2 hA2 hB2 hv7 hbz hb6 kA kB kR hb1
  refine wpAnyH_ready (rs := [9]) (by kernel_rfl) (by simp) (AllReadyH.cons rfl (fun K hK => ?_) AllReadyH.nil)
  go_simp
  refine hK.out _ _ HE.out (fun _ => ?_)
  clear hK K
  refine wpAnyH_done (by kernel_rfl) ?_ _
  go_wp2_with fail
  refine bodyPost_cell (N + 2) 45 #[.bool sg, .slice A7 n7 c7] (.agg #[.bool sg, .slice A7 n7 c7]) HR2.out ?_ ⟨_, by rw [HSG.out], HM.out, by rw [HNe.out]; exact HB.out⟩
  intro W' hW'
  simp [results, Tryz.results75, go_sem, hW']
set_option maxHeartbeats 16000000 in
theorem add_lt (va vb : Value) (a b : Nat) (w : World) (ha : MagD w va a) (hb : MagD w vb b) (la : (digs a).length ≤ 1000) (lb : (digs b).length ≤ 1000) (hab : a < b) : Calls Tryz.prog 75 #[.agg #[.bool false, va], .agg #[.bool true, vb]] w (ZR w true (b - a)) := by
  have HP : Hid (∀ V, Below w.heap.size w V → Calls Tryz.prog 87 #[vb, va] V (RowD V (b - a))) := fun V h => less_any vb va b a V (hb.later h) (ha.later h) lb (Nat.le_of_lt hab)
  have HS : Hid (∀ V, Below w.heap.size w V → Calls Tryz.prog 70 #[va, vb] V fun e w' => e = .returned (.int .i64 (cmpN a b)) ∧ Below V.heap.size V w') := fun V h => sizes_any va vb a b V (ha.later h) (hb.later h) la lb
  obtain ⟨A, n, ca, rfl⟩ := ha.form
  obtain ⟨B, m, cb, rfl⟩ := hb.form
  have hcv : cmpN a b < 0 := by unfold cmpN; split <;> (try split) <;> omega
  generalize cmpN a b = cv at HS hcv
  have hdc : decide (cv ≥ 0) = false := decide_eq_false (by omega)
  have hdc' : decide (0 ≤ cv) = false := decide_eq_false (by omega)
  obtain ⟨p, hp⟩ : ∃ p, p = (b - a) := ⟨_, rfl⟩
  rw [← hp] at HP ⊢
  clear hp ha hb hab
  have e3 : ((w.alloc (.cells #[.bool false, .slice A n ca] 45)).alloc (.cells #[.bool true, .slice B m cb] 45)).heap.size = w.heap.size + 2 := by simp
  have e1 : (w.alloc (.cells #[.bool false, .slice A n ca] 45)).heap.size = w.heap.size + 1 := by simp
  have kA := ((Blk.new w 45 #[.bool false, .slice A n ca]).alloc (.cells #[.bool true, .slice B m cb] 45)).alloc (.cells #[.bool false, .slice none 0 0] 45)
  have kB := (Blk.new (w.alloc (.cells #[.bool false, .slice A n ca] 45)) 45 #[.bool true, .slice B m cb]).alloc (.cells #[.bool false, .slice none 0 0] 45)
  have kR := Blk.new ((w.alloc (.cells #[.bool false, .slice A n ca] 45)).alloc (.cells #[.bool true, .slice B m cb] 45)) 45 #[.bool false, .slice none 0 0]
  rw [e1] at kB
  rw [e3] at kR
  have hb1 : Below w.heap.size w (((w.alloc (.cells #[.bool false, .slice A n ca] 45)).alloc (.cells #[.bool true, .slice B m cb] 45)).alloc (.cells #[.bool false, .slice none 0 0] 45)) :=
    (((Below.refl _ _).alloc (Nat.le_refl _) _).alloc (by simp) _).alloc (by simp; omega) _
  clear e1 e3
  go_enter Tryz.func75, Tryz.ntmps75
  go_upto_region 1 with fail
  revert kA kB kR hb1
  generalize ((w.alloc (.cells #[.bool false, .slice A n ca] 45)).alloc (.cells #[.bool true, .slice B m cb] 45)).alloc (.cells #[.bool false, .slice none 0 0] 45) = wq
  generalize hNe : w.heap.size = N
  intro kA kB kR hb1
  have HNe := Lib.hid hNe
  have hsz := hb1.size
  rw [hNe] at hsz
  clear hNe
  have lR := kR.lt
  have cA := kA.cell
  have lA := kA.lt
  have cB := kB.cell
  have lB := kB.lt
  have hbe : ((false : Bool) == true) = false := rfl
  go_wp2_with fail
  refine (HS.out wq (by rw [HNe.out]; exact hb1)).mono ?_
  rintro e w9 ⟨rfl, hb9⟩
  replace kA := kA.later hb9
  replace kB := kB.later hb9
  replace kR := kR.later hb9
  replace hb1 := hb1.trans (hb9.mono hsz)
  replace hsz := Nat.le_trans hsz hb9.size
  clear cA lA cB lB lR HS hb9
  have lR := kR.lt
  obtain ⟨wq, hwq⟩ : ∃ x, x = w9 := ⟨_, rfl⟩
  subst hwq
  go_upto_region 5 with fail
  refine held_var (S := fun V => Blk V N 45 #[.bool false, .slice A n ca] ∧ Blk V (N + 1) 45 #[.bool true, .slice B m cb]) (by kernel_rfl) ⟨kA.drew, kB.drew⟩ (fun V0 hV0 hS0 => ?_)
  have hb0 : Below wq.heap.size wq V0 := by rw [hV0]; exact (Below.refl _ _).drew
  clear hV0
  refine wpAnyH_take (i := 0) (v := ?_) rfl (by kernel_rfl) (by kernel_rfl) (by kernel_rfl) (fun _ _ _ h => h) (Or.inl ⟨by rfl, ?hy⟩) (by assumption) ?_
  case hy => (intro w hSw; have cA := hSw.1.cell; have lA := hSw.1.lt; have cB := hSw.2.cell; have lB := hSw.2.lt; clear hSw; go_simp; try with_reducible rfl)
  refine wpAnyH_take (i := 1) (v := ?_) rfl (by kernel_rfl) (by kernel_rfl) (by kernel_rfl) (fun _ _ _ h => h) (Or.inl ⟨by rfl, ?hy⟩) (by assumption) ?_
  case hy => (intro w hSw; have cA := hSw.1.cell; have lA := hSw.1.lt; have cB := hSw.2.cell; have lB := hSw.2.lt; clear hSw; go_simp; try with_reducible rfl)
  refine wpAnyH_take (i := 2) (v := ?_) rfl (by kernel_rfl) (by kernel_rfl) (by kernel_rfl) (fun _ _ _ h => h) (Or.inl ⟨by rfl, ?hy⟩) (by assumption) ?_
  case hy => (intro w hSw; have cA := hSw.1.cell; have lA := hSw.1.lt; have cB := hSw.2.cell; have lB := hSw.2.lt; clear hSw; go_simp; try with_reducible rfl)
  refine wpAnyH_take (i := 3) (v := ?_) rfl (by kernel_rfl) (by kernel_rfl) (by kernel_rfl) (fun _ _ _ h => h) (Or.inl ⟨by rfl, ?hy⟩) (by assumption) ?_
  case hy => (intro w hSw; have cA := hSw.1.cell; have lA := hSw.1.lt; have cB := hSw.2.cell; have lB := hSw.2.lt; clear hSw; go_simp; try with_reducible rfl)
  simp only [Act.put, List.getElem_toArray, List.getElem_cons_succ, List.getElem_cons_zero, List.setIfInBounds_toArray, List.set_cons_succ, List.set_cons_zero]
  refine wpAnyH_take (i := 4) (v := ?_) rfl (by kernel_rfl) (by kernel_rfl) (by kernel_rfl) (fun _ _ _ h => h) (Or.inl ⟨by rfl, ?hy⟩) (by assumption) ?_
  case hy => (intro w hSw; have cA := hSw.1.cell; have lA := hSw.1.lt; have cB := hSw.2.cell; have lB := hSw.2.lt; clear hSw; go_simp; try with_reducible rfl)
  refine wpAnyH_take (i := 5) (v := ?_) rfl (by kernel_rfl) (by kernel_rfl) (by kernel_rfl) (fun _ _ _ h => h) (Or.inl ⟨by rfl, ?hy⟩) (by assumption) ?_
  case hy => (intro w hSw; have cA := hSw.1.cell; have lA := hSw.1.lt; have cB := hSw.2.cell; have lB := hSw.2.lt; clear hSw; go_simp; try with_reducible rfl)
  simp only [Act.put, List.getElem_toArray, List.getElem_cons_succ, List.getElem_cons_zero, List.setIfInBounds_toArray, List.set_cons_succ, List.set_cons_zero]
  refine wpAnyH_ready (rs := [6]) (by kernel_rfl) (by simp) (AllReadyH.cons rfl (fun K hK => ?_) AllReadyH.nil)
  go_simp
  refine (HP.out V0 (by rw [HNe.out]; exact hb1.trans (hb0.mono hsz))).mono ?_
  rintro e w5 ⟨A5, n5, c5, o5, rfl, hrow5, hdig5, hlen5, hvad5, hcap5, hn5, hb5⟩
  have hb6 := hb0.trans (hb5.mono hb0.size)
  refine hK.out _ _ ⟨kA.later hb6, kB.later hb6⟩ (fun _ => ?_)
  clear hK K HP
  refine wpAnyH_take (i := 7) (v := ?_) rfl (by kernel_rfl) (by kernel_rfl) (by kernel_rfl) (fun _ _ _ h => h) (Or.inl ⟨by rfl, ?hy⟩) (by assumption) ?_
  case hy => (intro w hSw; have cA := hSw.1.cell; have lA := hSw.1.lt; have cB := hSw.2.cell; have lB := hSw.2.lt; clear hSw; go_simp; try with_reducible rfl)
  simp only [Act.put, List.getElem_toArray, List.getElem_cons_succ, List.getElem_cons_zero, List.setIfInBounds_toArray, List.set_cons_succ, List.set_cons_zero]
  refine wpAnyH_ready (rs := [8]) (by kernel_rfl) (by simp) (AllReadyH.cons rfl (fun K hK => ?_) AllReadyH.nil)
  go_simp
  have HL := lean_any A5 n5 c5 o5 true w5 hrow5 hdig5 hn5 hcap5
  rw [hvad5] at HL
  refine HL.mono ?_
  rintro e w7 ⟨v7, rfl, hv7, hb7⟩
  obtain ⟨A7, n7, c7, rfl⟩ := hv7.form
  obtain ⟨sg, hsg⟩ : ∃ sg, sg = (true && decide (0 < p)) := ⟨_, rfl⟩
  rw [← hsg]
  have HSG := Lib.hid hsg
  have hbz := hb6.trans (hb7.mono hb6.size)
  refine hK.out _ _ ⟨kA.later hbz, kB.later hbz⟩ (fun _ => ?_)
  clear hK K HL hsg hrow5 hdig5 hlen5 hvad5 hcap5 hn5 hb5 hb7
  have hR0 : Blk w7 (N + 2) 45 #[.bool false, .slice none 0 0] := kR.later hbz
  have hR1 : Blk _ (N + 2) 45 #[.bool sg, .slice none 0 0] := hR0.set_ 0 (.bool sg)
  have hR2 : Blk _ (N + 2) 45 #[.bool sg, .slice A7 n7 c7] := hR1.set_ 1 (.slice A7 n7 c7)
  have hA2 := ((kA.later hbz).far (p := ⟨N + 2, 0, none⟩) (show N ≠ N + 2 by omega) (.bool sg)).far (p := ⟨N + 2, 1, none⟩) (show N ≠ N + 2 by omega) (.slice A7 n7 c7)
  have hB2 := ((kB.later hbz).far (p := ⟨N + 2, 0, none⟩) (show N + 1 ≠ N + 2 by omega) (.bool sg)).far (p := ⟨N + 2, 1, none⟩) (show N + 1 ≠ N + 2 by omega) (.slice A7 n7 c7)
  have HM := Lib.hid ((hv7.far (r := [.slice none 0 0]) hR0 (p := ⟨N + 2, 0, none⟩) rfl (.bool sg)).far (r := [.slice none 0 0]) hR1 (p := ⟨N + 2, 1, none⟩) rfl (.slice A7 n7 c7))
  have HB := Lib.hid (((hb1.trans (hbz.mono hsz)).setCell (p := ⟨N + 2, 0, none⟩) (show N ≤ N + 2 by omega) (.bool sg)).setCell (p := ⟨N + 2, 1, none⟩) (show N ≤ N + 2 by omega) (.slice A7 n7 c7))
  have HR2 := Lib.hid hR2
  have HE := Lib.hid (And.intro hA2 hB2)
  have cR := hR0.cell
  have fR := hR0.frozen
  have lR8 := hR0.lt
  have cR1 := hR1.cell
  have fR1 := hR1.frozen
  clear hR0 hR1 hR2 hA2 hB2 hv7 hbz hb6 kA kB kR hb1
  refine wpAnyH_ready (rs := [9]) (by kernel_rfl) (by simp) (AllReadyH.cons rfl (fun K hK => ?_) AllReadyH.nil)
  go_simp
  refine hK.out _ _ HE.out (fun _ => ?_)
  clear hK K
  refine wpAnyH_done (by kernel_rfl) ?_ _
  go_wp2_with fail
  refine bodyPost_cell (N + 2) 45 #[.bool sg, .slice A7 n7 c7] (.agg #[.bool sg, .slice A7 n7 c7]) HR2.out ?_ ⟨_, by rw [HSG.out], HM.out, by rw [HNe.out]; exact HB.out⟩
  intro W' hW'
  simp [results, Tryz.results75, go_sem, hW']
end Go.Proofs.YtpklcjbdmikbdaaGreat
namespace Go.Proofs.YtpklcjbdmikbdaaGreat
set_option maxRecDepth 100000
open Go.RowKit

/-- How far two numbers are apart. -/
def distN (a b : Nat) : Nat := if a < b then b - a else a - b
/-- What is returned: a difference. -/
def DifZ (w : World) (a b : Nat) (e : Ending) (w' : World) : Prop := ∃ v, e = .returned (.agg #[.bool (decide (a < b)), v]) ∧ MagD w' v (distN a b) ∧ Below w.heap.size w w'
theorem negZ_any (v : Value) (b : Nat) (V : World) (hb : MagD V v b) : Calls Tryz.prog 32 #[.agg #[.bool false, v]] V fun e w' => e = .returned (.agg #[.bool (decide (0 < b)), v]) ∧ Below V.heap.size V w' := by
  rcases Nat.eq_zero_or_pos b with h0 | h0
  · subst h0
    obtain ⟨B, d, rfl⟩ := magD_zero hb
    exact neg_zero B d V
  · obtain ⟨B, d, rfl, _, _⟩ := hb
    rw [decide_eq_true h0]
    refine neg_pos B _ d ?_ V
    rcases Nat.eq_zero_or_pos (digs b).length with h1 | h1
    · have := digs_nil.1 h1; omega
    · exact h1
theorem addZ_any (va vb : Value) (a b : Nat) (V : World) (ha : MagD V va a) (hb : MagD V vb b) (la : (digs a).length ≤ 1000) (lb : (digs b).length ≤ 1000) : Calls Tryz.prog 75 #[.agg #[.bool false, va], .agg #[.bool (decide (0 < b)), vb]] V (DifZ V a b) := by
  rcases Nat.eq_zero_or_pos b with h0 | h0
  · subst h0
    obtain ⟨B, d, rfl⟩ := magD_zero hb
    refine (add_same va B d a V ha la).mono ?_
    rintro e w' ⟨v, rfl, hv, hbb⟩
    refine ⟨v, ?_, ?_, hbb⟩
    · rw [decide_eq_false (show ¬ a < 0 by omega)]; rfl
    · unfold distN; rw [if_neg (by omega)]; exact hv
  · rw [decide_eq_true h0]
    rcases Nat.lt_or_ge a b with h | h
    · refine (add_lt va vb a b V ha hb la lb h).mono ?_
      rintro e w' ⟨v, rfl, hv, hbb⟩
      refine ⟨v, ?_, ?_, hbb⟩
      · rw [decide_eq_true h, decide_eq_true (show 0 < b - a by omega)]; rfl
      · unfold distN; rw [if_pos h]; exact hv
    · refine (add_ge va vb a b V ha hb la lb h).mono ?_
      rintro e w' ⟨v, rfl, hv, hbb⟩
      refine ⟨v, ?_, ?_, hbb⟩
      · rw [decide_eq_false (show ¬ a < b by omega)]; rfl
      · unfold distN; rw [if_neg (by omega)]; exact hv
theorem signZ_any (v : Value) (a b : Nat) (V : World) (hv : MagD V v (distN a b)) : Calls Tryz.prog 51 #[.agg #[.bool (decide (a < b)), v]] V fun e w' => e = .returned (.int .i64 (cmpN a b)) ∧ Below V.heap.size V w' := by
  have hpos : ∀ k, 0 < k → 0 < (digs k).length := fun k hk => by
    rcases Nat.eq_zero_or_pos (digs k).length with h1 | h1
    · have := digs_nil.1 h1; omega
    · exact h1
  rcases Nat.lt_trichotomy a b with h | h | h
  · have e : cmpN a b = -1 := by unfold cmpN; rw [if_pos h]
    obtain ⟨B, d, rfl, _, _⟩ := hv
    rw [decide_eq_true h, e]
    exact sign_neg B _ d (hpos _ (by unfold distN; rw [if_pos h]; omega)) V
  · subst h
    have e : cmpN a a = 0 := by unfold cmpN; rw [if_neg (by omega), if_neg (by omega)]
    have e2 : distN a a = 0 := by unfold distN; rw [if_neg (by omega)]; omega
    rw [e2] at hv
    obtain ⟨B, d, rfl⟩ := magD_zero hv
    rw [decide_eq_false (show ¬ a < a by omega), e]
    exact sign_zero B d V
  · have e : cmpN a b = 1 := by unfold cmpN; rw [if_neg (by omega), if_pos h]
    obtain ⟨B, d, rfl, _, _⟩ := hv
    rw [decide_eq_false (show ¬ a < b by omega), e]
    exact sign_pos B _ d (hpos _ (by unfold distN; rw [if_neg (by omega)]; omega)) V
set_option maxHeartbeats 16000000 in
theorem subZ_any (va vb : Value) (a b : Nat) (w : World) (ha : MagD w va a) (hb : MagD w vb b) (la : (digs a).length ≤ 1000) (lb : (digs b).length ≤ 1000) : Calls Tryz.prog 52 #[.agg #[.bool false, va], .agg #[.bool false, vb]] w (DifZ w a b) := by
  have HG : Hid (∀ V, Below w.heap.size w V → _) := fun V h => negZ_any vb b V (hb.later h)
  have HA : Hid (∀ V, Below w.heap.size w V → _) := fun V h => addZ_any va vb a b V (ha.later h) (hb.later h) la lb
  obtain ⟨A, n, ca, rfl⟩ := ha.form
  obtain ⟨B, m, cb, rfl⟩ := hb.form
  generalize decide (0 < b) = sb at *
  clear ha hb
  have e3 : ((w.alloc (.cells #[.bool false, .slice A n ca] 45)).alloc (.cells #[.bool false, .slice B m cb] 45)).heap.size = w.heap.size + 2 := by simp
  have e1 : (w.alloc (.cells #[.bool false, .slice A n ca] 45)).heap.size = w.heap.size + 1 := by simp
  have kA := ((Blk.new w 45 #[.bool false, .slice A n ca]).alloc (.cells #[.bool false, .slice B m cb] 45)).alloc (.cells #[.bool false, .slice none 0 0] 45)
  have kB := (Blk.new (w.alloc (.cells #[.bool false, .slice A n ca] 45)) 45 #[.bool false, .slice B m cb]).alloc (.cells #[.bool false, .slice none 0 0] 45)
  have kR := Blk.new ((w.alloc (.cells #[.bool false, .slice A n ca] 45)).alloc (.cells #[.bool false, .slice B m cb] 45)) 45 #[.bool false, .slice none 0 0]
  rw [e1] at kB
  rw [e3] at kR
  have hb1 : Below w.heap.size w (((w.alloc (.cells #[.bool false, .slice A n ca] 45)).alloc (.cells #[.bool false, .slice B m cb] 45)).alloc (.cells #[.bool false, .slice none 0 0] 45)) :=
    (((Below.refl _ _).alloc (Nat.le_refl _) _).alloc (by simp) _).alloc (by simp; omega) _
  clear e1 e3
  go_enter Tryz.func52, Tryz.ntmps52
  go_upto_region 1 with fail
  revert kA kB kR hb1
  generalize ((w.alloc (.cells #[.bool false, .slice A n ca] 45)).alloc (.cells #[.bool false, .slice B m cb] 45)).alloc (.cells #[.bool false, .slice none 0 0] 45) = wq
  generalize hNe : w.heap.size = N
  intro kA kB kR hb1
  have HNe := Lib.hid hNe
  have hsz := hb1.size
  rw [hNe] at hsz
  clear hNe
  have lR := kR.lt
  refine held_var (S := fun V => Blk V N 45 #[.bool false, .slice A n ca] ∧ Blk V (N + 1) 45 #[.bool false, .slice B m cb]) (by kernel_rfl) ⟨kA.drew, kB.drew⟩ (fun V0 hV0 hS0 => ?_)
  have hb0 : Below wq.heap.size wq V0 := by rw [hV0]; exact (Below.refl _ _).drew
  clear hV0
  refine wpAnyH_take (i := 0) (v := ?_) rfl (by kernel_rfl) (by kernel_rfl) (by kernel_rfl) (fun _ _ _ h => h) (Or.inl ⟨by rfl, ?hy⟩) (by assumption) ?_
  case hy => (intro w hSw; have cA := hSw.1.cell; have lA := hSw.1.lt; have cB := hSw.2.cell; have lB := hSw.2.lt; clear hSw; go_simp; try with_reducible rfl)
  refine wpAnyH_take (i := 1) (v := ?_) rfl (by kernel_rfl) (by kernel_rfl) (by kernel_rfl) (fun _ _ _ h => h) (Or.inl ⟨by rfl, ?hy⟩) (by assumption) ?_
  case hy => (intro w hSw; have cA := hSw.1.cell; have lA := hSw.1.lt; have cB := hSw.2.cell; have lB := hSw.2.lt; clear hSw; go_simp; try with_reducible rfl)
  simp only [Act.put, List.getElem_toArray, List.getElem_cons_succ, List.getElem_cons_zero, List.setIfInBounds_toArray, List.set_cons_succ, List.set_cons_zero]
  refine wpAnyH_ready (rs := [2]) (by kernel_rfl) (by simp) (AllReadyH.cons rfl (fun K hK => ?_) AllReadyH.nil)
  go_simp
  refine (HG.out V0 (by rw [HNe.out]; exact hb1.trans (hb0.mono hsz))).mono ?_
  rintro e w5 ⟨rfl, hb5⟩
  have hb6 := hb0.trans (hb5.mono hb0.size)
  refine hK.out _ _ ⟨kA.later hb6, kB.later hb6⟩ (fun _ => ?_)
  clear hK K HG
  refine wpAnyH_ready (rs := [3]) (by kernel_rfl) (by simp) (AllReadyH.cons rfl (fun K hK => ?_) AllReadyH.nil)
  go_simp
  refine (HA.out w5 (by rw [HNe.out]; exact hb1.trans (hb6.mono hsz))).mono ?_
  rintro e w7 ⟨v7, rfl, hv7, hb7⟩
  obtain ⟨A7, n7, c7, rfl⟩ := hv7.form
  obtain ⟨sg, hsg⟩ : ∃ sg, sg = decide (a < b) := ⟨_, rfl⟩
  rw [← hsg]
  have HSG := Lib.hid hsg
  have hbz := hb6.trans (hb7.mono hb6.size)
  refine hK.out _ _ ⟨kA.later hbz, kB.later hbz⟩ (fun _ => ?_)
  clear hK K HA hsg hb5 hb7
  have hR0 : Blk w7 (N + 2) 45 #[.bool false, .slice none 0 0] := kR.later hbz
  have hR1 : Blk _ (N + 2) 45 #[.bool sg, .slice none 0 0] := hR0.set_ 0 (.bool sg)
  have hR2 : Blk _ (N + 2) 45 #[.bool sg, .slice A7 n7 c7] := hR1.set_ 1 (.slice A7 n7 c7)
  have hA2 := ((kA.later hbz).far (p := ⟨N + 2, 0, none⟩) (show N ≠ N + 2 by omega) (.bool sg)).far (p := ⟨N + 2, 1, none⟩) (show N ≠ N + 2 by omega) (.slice A7 n7 c7)
  have hB2 := ((kB.later hbz).far (p := ⟨N + 2, 0, none⟩) (show N + 1 ≠ N + 2 by omega) (.bool sg)).far (p := ⟨N + 2, 1, none⟩) (show N + 1 ≠ N + 2 by omega) (.slice A7 n7 c7)
  have HM := Lib.hid ((hv7.far (r := [.slice none 0 0]) hR0 (p := ⟨N + 2, 0, none⟩) rfl (.bool sg)).far (r := [.slice none 0 0]) hR1 (p := ⟨N + 2, 1, none⟩) rfl (.slice A7 n7 c7))
  have HB := Lib.hid (((hb1.trans (hbz.mono hsz)).setCell (p := ⟨N + 2, 0, none⟩) (show N ≤ N + 2 by omega) (.bool sg)).setCell (p := ⟨N + 2, 1, none⟩) (show N ≤ N + 2 by omega) (.slice A7 n7 c7))
  have HR2 := Lib.hid hR2
  have HE := Lib.hid (And.intro hA2 hB2)
  have cR := hR0.cell
  have fR := hR0.frozen
  have lR8 := hR0.lt
  have cR1 := hR1.cell
  have fR1 := hR1.frozen
  clear hR0 hR1 hR2 hA2 hB2 hv7 hbz hb6 kA kB kR hb1
  refine wpAnyH_ready (rs := [4]) (by kernel_rfl) (by simp) (AllReadyH.cons rfl (fun K hK => ?_) AllReadyH.nil)
  go_simp
  refine hK.out _ _ HE.out (fun _ => ?_)
  clear hK K
  refine wpAnyH_done (by kernel_rfl) ?_ _
  go_wp2_with fail
  refine bodyPost_cell (N + 2) 45 #[.bool sg, .slice A7 n7 c7] (.agg #[.bool sg, .slice A7 n7 c7]) HR2.out ?_ ⟨_, by rw [HSG.out], HM.out, by rw [HNe.out]; exact HB.out⟩
  intro W' hW'
  simp [results, Tryz.results52, go_sem, hW']
set_option maxHeartbeats 16000000 in
theorem cmpZ_any (va vb : Value) (a b : Nat) (w : World) (ha : MagD w va a) (hb : MagD w vb b) (la : (digs a).length ≤ 1000) (lb : (digs b).length ≤ 1000) : Calls Tryz.prog 33 #[.agg #[.bool false, va], .agg #[.bool false, vb]] w fun e w' => e = .returned (.int .i64 (cmpN a b)) ∧ Below w.heap.size w w' := by
  have HS : Hid (∀ V, Below w.heap.size w V → _) := fun V h => subZ_any va vb a b V (ha.later h) (hb.later h) la lb
  have HG : Hid (∀ (V : World) (v : Value), MagD V v (distN a b) → _) := fun V v h => signZ_any v a b V h
  obtain ⟨A, n, ca, rfl⟩ := ha.form
  obtain ⟨B, m, cb, rfl⟩ := hb.form
  have hb1 : Below w.heap.size w ((w.alloc (.cells #[.bool false, .slice A n ca] 45)).alloc (.cells #[.bool false, .slice B m cb] 45)) := ((Below.refl _ _).alloc (Nat.le_refl _) _).alloc (by simp) _
  have HS2 := Lib.hid (HS.out _ hb1)
  clear ha hb HS
  go_enter Tryz.func33, Tryz.ntmps33
  go_wp2_with fail
  refine HS2.out.mono ?_
  rintro e w2 ⟨v, rfl, hv, hb2⟩
  have HG2 := Lib.hid (HG.out w2 v hv)
  obtain ⟨A2, n2, c2, rfl⟩ := hv.form
  have hb3 := hb1.trans (hb2.mono hb1.size)
  clear HS2 HG hv hb1 hb2
  generalize decide (a < b) = sg at *
  go_wp2_with fail
  refine HG2.out.mono ?_
  rintro e w4 ⟨rfl, hb4⟩
  go_wp2_with fail
  go_ret
  exact ⟨rfl, hb3.trans (hb4.mono hb3.size)⟩
set_option maxHeartbeats 16000000 in
theorem cmpQ_any (va vb vc vd : Value) (a b c d : Nat) (w : World) (ha : MagD w va a) (hb : MagD w vb b) (hc : MagD w vc c) (hd : MagD w vd d) (a1 : a < 10000) (b1 : b < 10000) (c1 : c < 10000) (d1 : d < 10000) : Calls Tryz.prog 20 #[.agg #[.bool false, va, .bool false, vb], .agg #[.bool false, vc, .bool false, vd]] w fun e w' => e = .returned (.int .i64 (cmpN (a * d) (c * b))) ∧ Below w.heap.size w w' := by
  have HM1 : Hid (∀ V, Below w.heap.size w V → _) := fun V h => mulD_any va vd a d V (ha.later h) (hd.later h) a1 d1
  have HM2 : Hid (∀ V, Below w.heap.size w V → _) := fun V h => mulD_any vc vb c b V (hc.later h) (hb.later h) c1 b1
  have q1 : a * d < 100000000 := by
    have := Nat.mul_le_mul (show a ≤ 9999 by omega) (show d ≤ 9999 by omega)
    omega
  have q2 : c * b < 100000000 := by
    have := Nat.mul_le_mul (show c ≤ 9999 by omega) (show b ≤ 9999 by omega)
    omega
  have HC : Hid (∀ (V : World) (x y : Value), MagD V x (a * d) → MagD V y (c * b) → _) := fun V x y h1 h2 => cmpZ_any x y (a * d) (c * b) V h1 h2 (Nat.le_trans (digs_short q1) (by omega)) (Nat.le_trans (digs_short q2) (by omega))
  generalize a * d = p1 at *
  generalize c * b = p2 at *
  obtain ⟨A, n1, c1, rfl⟩ := ha.form
  obtain ⟨B, n2, c2, rfl⟩ := hb.form
  obtain ⟨C, n3, c3, rfl⟩ := hc.form
  obtain ⟨D, n4, c4, rfl⟩ := hd.form
  clear ha hb hc hd q1 q2
  have e1 : (w.alloc (.cells #[.bool false, .slice A n1 c1, .bool false, .slice B n2 c2] 47)).heap.size = w.heap.size + 1 := by simp
  have kA := (Blk.new w 47 #[.bool false, .slice A n1 c1, .bool false, .slice B n2 c2]).alloc (.cells #[.bool false, .slice C n3 c3, .bool false, .slice D n4 c4] 47)
  have kB := Blk.new (w.alloc (.cells #[.bool false, .slice A n1 c1, .bool false, .slice B n2 c2] 47)) 47 #[.bool false, .slice C n3 c3, .bool false, .slice D n4 c4]
  rw [e1] at kB
  have hb1 : Below w.heap.size w ((w.alloc (.cells #[.bool false, .slice A n1 c1, .bool false, .slice B n2 c2] 47)).alloc (.cells #[.bool false, .slice C n3 c3, .bool false, .slice D n4 c4] 47)) := ((Below.refl _ _).alloc (Nat.le_refl _) _).alloc (by simp) _
  clear e1
  go_enter Tryz.func20, Tryz.ntmps20
  go_upto_region 1 with fail
  have HALL := And.intro kA (And.intro kB hb1)
  clear kA kB hb1
  revert HALL
  generalize (w.alloc (.cells #[.bool false, .slice A n1 c1, .bool false, .slice B n2 c2] 47)).alloc (.cells #[.bool false, .slice C n3 c3, .bool false, .slice D n4 c4] 47) = wq
  generalize hNe : w.heap.size = N
  intro HALL
  obtain ⟨kA, kB, hb1⟩ := HALL
  have HNe := Lib.hid hNe
  have hsz := hb1.size
  rw [hNe] at hsz
  clear hNe
  refine held_var (S := fun V => Blk V N 47 #[.bool false, .slice A n1 c1, .bool false, .slice B n2 c2] ∧ Blk V (N + 1) 47 #[.bool false, .slice C n3 c3, .bool false, .slice D n4 c4]) (by kernel_rfl) ⟨kA.drew, kB.drew⟩ (fun V0 hV0 hS0 => ?_)
  have hb0 : Below wq.heap.size wq V0 := by rw [hV0]; exact (Below.refl _ _).drew
  clear hV0
  refine wpAnyH_take (i := 0) (v := ?_) rfl (by kernel_rfl) (by kernel_rfl) (by kernel_rfl) (fun _ _ _ h => h) (Or.inl ⟨by rfl, ?hy⟩) (by assumption) ?_
  case hy => (intro w hSw; have cA := hSw.1.cell; have lA := hSw.1.lt; have cB := hSw.2.cell; have lB := hSw.2.lt; clear hSw; go_simp; try with_reducible rfl)
  refine wpAnyH_take (i := 1) (v := ?_) rfl (by kernel_rfl) (by kernel_rfl) (by kernel_rfl) (fun _ _ _ h => h) (Or.inl ⟨by rfl, ?hy⟩) (by assumption) ?_
  case hy => (intro w hSw; have cA := hSw.1.cell; have lA := hSw.1.lt; have cB := hSw.2.cell; have lB := hSw.2.lt; clear hSw; go_simp; try with_reducible rfl)
  refine wpAnyH_take (i := 2) (v := ?_) rfl (by kernel_rfl) (by kernel_rfl) (by kernel_rfl) (fun _ _ _ h => h) (Or.inl ⟨by rfl, ?hy⟩) (by assumption) ?_
  case hy => (intro w hSw; have cA := hSw.1.cell; have lA := hSw.1.lt; have cB := hSw.2.cell; have lB := hSw.2.lt; clear hSw; go_simp; try with_reducible rfl)
  refine wpAnyH_take (i := 3) (v := ?_) rfl (by kernel_rfl) (by kernel_rfl) (by kernel_rfl) (fun _ _ _ h => h) (Or.inl ⟨by rfl, ?hy⟩) (by assumption) ?_
  case hy => (intro w hSw; have cA := hSw.1.cell; have lA := hSw.1.lt; have cB := hSw.2.cell; have lB := hSw.2.lt; clear hSw; go_simp; try with_reducible rfl)
  simp only [Act.put, List.getElem_toArray, List.getElem_cons_succ, List.getElem_cons_zero, List.setIfInBounds_toArray, List.set_cons_succ, List.set_cons_zero]
  refine wpAnyH_take (i := 5) (v := ?_) rfl (by kernel_rfl) (by kernel_rfl) (by kernel_rfl) (fun _ _ _ h => h) (Or.inl ⟨by rfl, ?hy⟩) (by assumption) ?_
  case hy => (intro w hSw; have cA := hSw.1.cell; have lA := hSw.1.lt; have cB := hSw.2.cell; have lB := hSw.2.lt; clear hSw; go_simp; try with_reducible rfl)
  refine wpAnyH_take (i := 6) (v := ?_) rfl (by kernel_rfl) (by kernel_rfl) (by kernel_rfl) (fun _ _ _ h => h) (Or.inl ⟨by rfl, ?hy⟩) (by assumption) ?_
  case hy => (intro w hSw; have cA := hSw.1.cell; have lA := hSw.1.lt; have cB := hSw.2.cell; have lB := hSw.2.lt; clear hSw; go_simp; try with_reducible rfl)
  refine wpAnyH_take (i := 7) (v := ?_) rfl (by kernel_rfl) (by kernel_rfl) (by kernel_rfl) (fun _ _ _ h => h) (Or.inl ⟨by rfl, ?hy⟩) (by assumption) ?_
  case hy => (intro w hSw; have cA := hSw.1.cell; have lA := hSw.1.lt; have cB := hSw.2.cell; have lB := hSw.2.lt; clear hSw; go_simp; try with_reducible rfl)
  refine wpAnyH_take (i := 8) (v := ?_) rfl (by kernel_rfl) (by kernel_rfl) (by kernel_rfl) (fun _ _ _ h => h) (Or.inl ⟨by rfl, ?hy⟩) (by assumption) ?_
  case hy => (intro w hSw; have cA := hSw.1.cell; have lA := hSw.1.lt; have cB := hSw.2.cell; have lB := hSw.2.lt; clear hSw; go_simp; try with_reducible rfl)
  simp only [Act.put, List.getElem_toArray, List.getElem_cons_succ, List.getElem_cons_zero, List.setIfInBounds_toArray, List.set_cons_succ, List.set_cons_zero]
  refine wpAnyH_ready (rs := [4]) (by kernel_rfl) (by simp) (AllReadyH.cons rfl (fun K hK => ?_) AllReadyH.nil)
  go_simp
  refine (HM1.out V0 (by rw [HNe.out]; exact hb1.trans (hb0.mono hsz))).mono ?_
  rintro e V1 ⟨v1, rfl, h1, hbX⟩
  replace hb0 := hb0.trans (hbX.mono hb0.size)
  refine hK.out _ _ ⟨kA.later hb0, kB.later hb0⟩ (fun _ => ?_)
  clear hK K hbX HM1
  refine wpAnyH_ready (rs := [9]) (by kernel_rfl) (by simp) (AllReadyH.cons rfl (fun K hK => ?_) AllReadyH.nil)
  go_simp
  refine (HM2.out V1 (by rw [HNe.out]; exact hb1.trans (hb0.mono hsz))).mono ?_
  rintro e V2 ⟨v2, rfl, h2, hbX⟩
  replace hb0 := hb0.trans (hbX.mono hb0.size)
  replace h1 := h1.later hbX
  refine hK.out _ _ ⟨kA.later hb0, kB.later hb0⟩ (fun _ => ?_)
  clear hK K hbX HM2
  refine wpAnyH_ready (rs := [10]) (by kernel_rfl) (by simp) (AllReadyH.cons rfl (fun K hK => ?_) AllReadyH.nil)
  go_simp
  refine (HC.out V2 _ _ h1 h2).mono ?_
  rintro e V3 ⟨rfl, hbX⟩
  replace hb0 := hb0.trans (hbX.mono hb0.size)
  refine hK.out _ _ ⟨kA.later hb0, kB.later hb0⟩ (fun _ => ?_)
  clear hK K hbX HC h1 h2
  refine wpAnyH_ready (rs := [11]) (by kernel_rfl) (by simp) (AllReadyH.cons rfl (fun K hK => ?_) AllReadyH.nil)
  go_simp
  refine hK.out _ _ ⟨kA.later hb0, kB.later hb0⟩ (fun _ => ?_)
  clear hK K
  refine wpAnyH_done (by kernel_rfl) ?_ _
  have hbz := hb1.trans (hb0.mono hsz)
  go_wp2_with fail
  go_ret
  exact ⟨rfl, by rw [HNe.out]; exact hbz⟩
end Go.Proofs.YtpklcjbdmikbdaaGreat
