/-
  The seat's texts DigF DigG DigH DigI DigJ in one: the contracts of the functions that the law reaches, and the plain laws that they rest on.
  Conditions: as each theorem states them.
-/
import Derived.Test.YtpklcjbdmikbdaaGreatGD
namespace Go.Proofs.YtpklcjbdmikbdaaGreat
set_option maxRecDepth 100000
open Go.RowKit

set_option maxHeartbeats 32000000 in
theorem divmod_pos (ga ca : Nat) (B : Option Addr) (m cb a b q r : Nat) (w : World) (hga : ga < w.heap.size) (qa : w.cell? ⟨ga, 0, none⟩ = some (.int .i64 (a : Int))) (a0 : 0 < a) (ha : a < 10000) (b0 : 0 < b) (hb : b < 10000) (hB : MagD w (.slice B m cb) b) (hq : a / b = q) (hr : a % b = r) : Calls Tryz.prog 69 #[.agg #[.bool false, .slice (some ⟨ga, 0, none⟩) 1 ca], .agg #[.bool false, .slice B m cb]] w (DivZ w q r) := by
  have hmk : ∀ w, (Instr.makeSlice 43 (.int .i64 1) (.int .i64 1)).run Tryz.prog w = .ok (.slice (some ⟨w.heap.size, 0, none⟩) 1 1) (w.alloc (.cells #[.int .i64 0] 3)) := fun w => make_ints 1 (by omega) w
  have HQ := Lib.hid hq
  have HR := Lib.hid hr
  have HT : Hid (∀ V d, Below w.heap.size w V → d < 10000 → _) := fun V d h hd => times_any (.slice B m cb) b d V (hB.later h) hb hd
  have hqb : q < 10000 := by rw [← hq]; exact Nat.lt_of_le_of_lt (Nat.div_le_self _ _) ha
  have QA := Lib.hid qa
  clear hq hr hB qa
  have e1 : (w.alloc (.cells #[.bool false, .slice (some ⟨ga, 0, none⟩) 1 ca] 45)).heap.size = w.heap.size + 1 := by simp
  have e2 : ((w.alloc (.cells #[.bool false, .slice (some ⟨ga, 0, none⟩) 1 ca] 45)).alloc (.cells #[.bool false, .slice B m cb] 45)).heap.size = w.heap.size + 2 := by simp
  have e3 : (((w.alloc (.cells #[.bool false, .slice (some ⟨ga, 0, none⟩) 1 ca] 45)).alloc (.cells #[.bool false, .slice B m cb] 45)).alloc (.cells #[.bool false, .slice none 0 0] 45)).heap.size = w.heap.size + 3 := by simp
  have e4 : ((((w.alloc (.cells #[.bool false, .slice (some ⟨ga, 0, none⟩) 1 ca] 45)).alloc (.cells #[.bool false, .slice B m cb] 45)).alloc (.cells #[.bool false, .slice none 0 0] 45)).alloc (.cells #[.bool false, .slice none 0 0] 45)).heap.size = w.heap.size + 4 := by simp
  have kA := (((Blk.new w 45 #[.bool false, .slice (some ⟨ga, 0, none⟩) 1 ca]).alloc (.cells #[.bool false, .slice B m cb] 45)).alloc (.cells #[.bool false, .slice none 0 0] 45)).alloc (.cells #[.bool false, .slice none 0 0] 45)
  have kB := ((Blk.new (w.alloc (.cells #[.bool false, .slice (some ⟨ga, 0, none⟩) 1 ca] 45)) 45 #[.bool false, .slice B m cb]).alloc (.cells #[.bool false, .slice none 0 0] 45)).alloc (.cells #[.bool false, .slice none 0 0] 45)
  have kR := (Blk.new ((w.alloc (.cells #[.bool false, .slice (some ⟨ga, 0, none⟩) 1 ca] 45)).alloc (.cells #[.bool false, .slice B m cb] 45)) 45 #[.bool false, .slice none 0 0]).alloc (.cells #[.bool false, .slice none 0 0] 45)
  have kS := Blk.new (((w.alloc (.cells #[.bool false, .slice (some ⟨ga, 0, none⟩) 1 ca] 45)).alloc (.cells #[.bool false, .slice B m cb] 45)).alloc (.cells #[.bool false, .slice none 0 0] 45)) 45 #[.bool false, .slice none 0 0]
  rw [e1] at kB
  rw [e2] at kR
  rw [e3] at kS
  have hb1 : Below w.heap.size w ((((w.alloc (.cells #[.bool false, .slice (some ⟨ga, 0, none⟩) 1 ca] 45)).alloc (.cells #[.bool false, .slice B m cb] 45)).alloc (.cells #[.bool false, .slice none 0 0] 45)).alloc (.cells #[.bool false, .slice none 0 0] 45)) :=
    ((((Below.refl _ _).alloc (Nat.le_refl _) _).alloc (by simp) _).alloc (by simp; omega) _).alloc (by simp; omega) _
  clear e1 e2 e3
  go_enter Tryz.func69, Tryz.ntmps69
  go_upto_region 1 with fail
  revert kA kB kR kS hb1 e4
  generalize (((w.alloc (.cells #[.bool false, .slice (some ⟨ga, 0, none⟩) 1 ca] 45)).alloc (.cells #[.bool false, .slice B m cb] 45)).alloc (.cells #[.bool false, .slice none 0 0] 45)).alloc (.cells #[.bool false, .slice none 0 0] 45) = w1
  generalize hNe : w.heap.size = N
  intro hsz kA kB kR kS hb1
  have HNe := Lib.hid hNe
  have hszl : N ≤ w1.heap.size := by omega
  have hszg : N + 3 < w1.heap.size := by omega
  clear hNe hsz
  rw [HNe.out] at hga
  have hbn : Below w1.heap.size w1 ((w1.alloc (.cells #[.int .i64 0] 3)).alloc (.cells #[] 3)) := ((Below.refl _ _).alloc (Nat.le_refl _) _).alloc (by simp) _
  have kA2 := kA.later hbn
  have kB2 := kB.later hbn
  have kR2 := kR.later hbn
  have kS2 := kS.later hbn
  have kq2 := (Blk.new w1 3 #[.int .i64 0]).alloc (.cells #[] 3)
  have hb2 := hb1.trans (hbn.mono hszl)
  have cA := kA.cell
  have lA := kA.lt
  go_upto_region 2 with fail
  clear cA lA kA kB kR kS hmk hb1 hbn
  have HALL := And.intro kA2 (And.intro kB2 (And.intro kR2 (And.intro kS2 (And.intro kq2 (And.intro hb2 hszg)))))
  clear kA2 kB2 kR2 kS2 kq2 hb2 hszg hszl
  revert HALL
  generalize (w1.alloc (.cells #[.int .i64 0] 3)).alloc (.cells #[] 3) = w2
  generalize w1.heap.size = gq
  intro HALL
  obtain ⟨kA, kB, kR, kS, kq, hbl, hszg⟩ : Blk w2 N 45 #[.bool false, .slice (some ⟨ga, 0, none⟩) 1 ca] ∧ Blk w2 (N + 1) 45 #[.bool false, .slice B m cb] ∧ Blk w2 (N + 2) 45 #[.bool false, .slice none 0 0] ∧ Blk w2 (N + 3) 45 #[.bool false, .slice none 0 0] ∧ Blk w2 gq 3 #[.int .i64 0] ∧ Below N w w2 ∧ N + 3 < gq := HALL
  have cA := kA.cell
  have lA := kA.lt
  go_wp2_with fail
  clear cA lA
  go_loopw [7, 8] (fun rv i wr => ((i = .int .i64 0 ∧ rv = .slice (some ⟨gq + 1, 0, none⟩) 0 0 ∧ Blk wr gq 3 #[.int .i64 0]) ∨ (i = .int .i64 (-1) ∧ MagD wr rv r ∧ Blk wr gq 3 #[.int .i64 (q : Int)])) ∧ Blk wr N 45 #[.bool false, .slice (some ⟨ga, 0, none⟩) 1 ca] ∧ Blk wr (N + 1) 45 #[.bool false, .slice B m cb] ∧ Blk wr (N + 2) 45 #[.bool false, .slice none 0 0] ∧ Blk wr (N + 3) 45 #[.bool false, .slice none 0 0] ∧ Below N w wr) (fun _ i _ => (intOf i + 1).toNat)
  case atStart => exact ⟨.inl ⟨by go_num, rfl, kq⟩, kA, kB, kR, kS, hbl⟩
  case round =>
    clear kA kB kR kS kq hbl
    obtain ⟨hcase, kA, kB, kR, kS, hbl⟩ := hrel
    obtain ⟨wq, hwq⟩ : ∃ x, x = wr := ⟨_, rfl⟩
    subst hwq
    rcases hcase with ⟨rfl, rfl, kq⟩ | ⟨rfl, hrv, kq⟩
    · have hbl2 : Below w.heap.size w wq := by rw [HNe.out]; exact hbl
      have hszq := hbl.size
      rw [HNe.out] at hszq
      have q1 := (hbl2.cell (p := ⟨ga, 0, none⟩) (by rw [HNe.out]; exact hga)).trans QA.out
      have hgaw : ga < wq.heap.size := by omega
      have HOWN : Hid ((wq.alloc (.cells #[.int .i64 (a : Int)] 3)).ownsRow wq.heap.size 3 1 (.slice (some ⟨wq.heap.size, 0, none⟩) 1 1) 1 ([(a : Int)].map (Value.int .i64))) := World.ownsRow_lit (base := wq.heap.size) (e := 3) (size := 1) wq #[.int .i64 (a : Int)] 1 (Nat.le_refl _) (by unfold maxLen; omega) rfl
      have HNIL : Hid (RowI (wq.alloc (.cells #[.int .i64 (a : Int)] 3)) (some ⟨gq + 1, 0, none⟩) 0 []) := RowI.nil _ _
      have hba : Below wq.heap.size wq (wq.alloc (.cells #[.int .i64 (a : Int)] 3)) := (Below.refl _ _).alloc (Nat.le_refl _) _
      have HBA := Lib.hid hba
      have HSQ : Hid (wq.heap.size ≤ (wq.alloc (.cells #[.int .i64 (a : Int)] 3)).heap.size) := by show _ ≤ _; simp
      have cA := kA.cell
      have lA := kA.lt
      clear hba
      go_wp2_with (at_builtin; refine app_ints _ rfl (.tmp 32) (.tmp 33) rfl wq.heap.size (.slice (some ⟨wq.heap.size, 0, none⟩) 1 1) 1 [(a : Int)] rfl HOWN.out (some ⟨gq + 1, 0, none⟩) 0 0 [] rfl HNIL.out (by omega) HSQ.out ?_)
      all_goals
        intro v5 w5 hown5 hgr5
        obtain ⟨A5, c5, rfl⟩ := own_slice hown5
        have hb5 : Below wq.heap.size wq w5 := HBA.out.grown hgr5 HSQ.out (fun x hx => (World.ownsRow.lt HOWN.out x hx).1)
        have hcap5 : 1 ≤ c5 := by
          rcases hown5.2 with ⟨h1, _⟩ | ⟨g', cap, cur, h1, _, _, h2, _⟩
          · injection h1; omega
          · injection h1; omega
        have hrow5 : RowH w5 A5 1 (dI [a]) := own_rowH hown5
        have HL := Lib.hid (lean_mag A5 1 c5 [a] a w5 hrow5 (fun x hx => by simp at hx; omega) (by omega) hcap5 (by simp [vad]))
        clear hown5 hgr5 HOWN HNIL HBA HSQ cA lA hrow5 hcap5 q1
        go_wp2_with fail
        refine HL.out.mono ?_
        rintro e w6 ⟨v6, rfl, hv6, hb6⟩
        have hb7 := hb5.trans (hb6.mono hb5.size)
        replace kA := kA.later hb7
        replace kB := kB.later hb7
        replace kR := kR.later hb7
        replace kS := kS.later hb7
        replace kq := kq.later hb7
        replace hbl := hbl.trans (hb7.mono hszq)
        clear HL hb5 hb6 hb7 hbl2 hszq hgaw
        obtain ⟨A6, c6, rfl, rA6, hc6⟩ := hv6
        rw [digs_one a0 ha] at rA6 hc6 ⊢
        have MAG : Hid (∀ V, Below w6.heap.size w6 V → MagD V (.slice A6 1 c6) a) := fun V h => ⟨A6, c6, by rw [digs_one a0 ha]; rfl, by rw [digs_one a0 ha]; exact rA6.later h, by rw [digs_one a0 ha]; exact hc6⟩
        have RA6 := Lib.hid rA6
        have HC6 : Hid (1 ≤ c6) := hc6
        have e1 : [a].length = 1 := rfl
        rw [e1]
        have hfd := fld45 false A6 1 c6
        have HBL := Lib.hid hbl
        have hszq := hbl.size
        rw [HNe.out] at hszq
        clear rA6 hc6 e1 hbl
        go_wp2_with fail
        clear hfd
        go_loopw [9, 10] (fun x9 x10 wr => ∃ lo hi : Nat, x9 = .int .i64 (lo : Int) ∧ x10 = .int .i64 (hi : Int) ∧ lo < hi ∧ hi ≤ 10000 ∧ Hid (b * lo ≤ a) ∧ Hid (a < b * hi) ∧ Below w6.heap.size w6 wr) (fun x9 x10 _ => (intOf x10 - intOf x9).toNat)
        case atStart => exact ⟨0, 10000, rfl, rfl, by omega, by omega, (by show _ ≤ _; rw [Nat.mul_zero]; exact Nat.zero_le _), (by show _ < _; exact Nat.lt_of_lt_of_le ha (Nat.le_mul_of_pos_left _ b0)), Below.refl _ _⟩
        case round =>
          obtain ⟨lo, hi, rfl, rfl, hlh, hhi, hlo, hhi2, hbf⟩ := hrel
          obtain ⟨wz, hwz⟩ : ∃ x, x = wr := ⟨_, rfl⟩
          subst hwz
          have hblz : Below w.heap.size w wz := by rw [HNe.out]; exact HBL.out.trans (hbf.mono hszq)
          have kBz := kB.later hbf
          have cB := kBz.cell
          have lB := kBz.lt
          by_cases hgo : lo + 1 < hi
          · have hd : decide ((hi : Int) - (lo : Int) > 1) = true := decide_eq_true (by omega)
            have hd' : (1 : Int) < (hi : Int) - (lo : Int) := by omega
            obtain ⟨mid, hmid⟩ : ∃ mid, (lo + hi) / 2 = mid := ⟨_, rfl⟩
            have htd : Int.tdiv ((lo : Int) + (hi : Int)) 2 = (mid : Int) := by rw [Int.tdiv_eq_ediv_of_nonneg (by omega)]; omega
            have hm1 : lo < mid := by omega
            have hm2 : mid < hi := by omega
            have HTm := Lib.hid (HT.out wz mid hblz (by omega))
            have hpm : b * mid < 100000000 := by
              have := Nat.mul_le_mul (show b ≤ 9999 by omega) (show mid ≤ 9999 by omega)
              omega
            obtain ⟨pm, hpme⟩ : ∃ pm, b * mid = pm := ⟨_, rfl⟩
            have HPM := Lib.hid hpme
            rw [hpme] at HTm hpm
            clear hpme hmid
            go_wp2_with fail
            refine HTm.out.mono ?_
            rintro e w7 ⟨v7, rfl, hv7, hb7⟩
            have hb8 := hbf.trans (hb7.mono hbf.size)
            have HS := Lib.hid (sizes_any v7 (.slice A6 1 c6) pm a w7 hv7 (MAG.out w7 hb8) (Nat.le_trans (digs_short hpm) (by omega)) (by rw [digs_one a0 ha]; simp))
            obtain ⟨A7, c7, rfl, _, _⟩ := hv7
            obtain ⟨n7, hn7⟩ : ∃ n, n = (digs pm).length := ⟨_, rfl⟩
            rw [← hn7] at HS ⊢
            clear hn7 HTm hb7
            by_cases hle : pm ≤ a
            · have hcv : cmpN pm a ≤ 0 := by unfold cmpN; split <;> (try split) <;> omega
              have HLO : Hid (b * mid ≤ a) := by show _ ≤ _; rw [HPM.out]; exact hle
              generalize cmpN pm a = cv at HS hcv
              have hdc : decide (cv ≤ 0) = true := decide_eq_true hcv
              clear hle hlo
              go_wp2_with fail
              refine HS.out.mono ?_
              rintro e w8 ⟨rfl, hb9⟩
              have hb10 := hb8.trans (hb9.mono hb8.size)
              clear HS hb8 hb9 kBz cB lB
              go_wp2_with fail
              go_roundw
              case rel => exact ⟨mid, hi, rfl, rfl, hm2, hhi, HLO.out, hhi2.out, hb10⟩
              case measure => simp [intOf] <;> omega
            · have hcv : ¬ cmpN pm a ≤ 0 := by unfold cmpN; split <;> (try split) <;> omega
              have HHI : Hid (a < b * mid) := by show _ < _; rw [HPM.out]; omega
              generalize cmpN pm a = cv at HS hcv
              have hdc : decide (cv ≤ 0) = false := decide_eq_false hcv
              clear hle hhi2
              go_wp2_with fail
              refine HS.out.mono ?_
              rintro e w8 ⟨rfl, hb9⟩
              have hb10 := hb8.trans (hb9.mono hb8.size)
              clear HS hb8 hb9 kBz cB lB
              go_wp2_with fail
              go_roundw
              case rel => exact ⟨lo, mid, rfl, rfl, hm1, by omega, hlo.out, HHI.out, hb10⟩
              case measure => simp [intOf] <;> omega
          · have hd : decide ((hi : Int) - (lo : Int) > 1) = false := decide_eq_false (by omega)
            have hd' : ¬ (1 : Int) < (hi : Int) - (lo : Int) := by omega
            obtain rfl : hi = lo + 1 := by omega
            have hql : lo = q := by
              rw [← HQ.out]
              exact (Nat.div_eq_of_lt_le (by rw [Nat.mul_comm]; exact hlo.out) (by rw [Nat.mul_comm]; exact hhi2.out)).symm
            subst hql
            have hble : b * lo ≤ a := hlo.out
            have hrr : a - b * lo = r := by
              have := Nat.div_add_mod a b
              rw [HQ.out, HR.out] at this
              omega
            have kqz := kq.later hbf
            have hgz : gq < wz.heap.size := kqz.lt
            have hg6 : gq < w6.heap.size := kq.lt
            have hb9 : Below N w (wz.setCell ⟨gq, 0, none⟩ (.int .i64 (lo : Int))) := (HBL.out.trans (hbf.mono hszq)).setCell (show N ≤ gq by omega) _
            have hne : ∀ g, A6 = some ⟨g, 0, none⟩ → g ≠ gq := fun g hg e => by
              obtain ⟨g2, e2, _, hc2⟩ := RA6.out.2 (by simp)
              rw [hg] at e2
              cases e2
              have h3 := hc2 0 (a : Int) rfl
              rw [e, kq.cell] at h3
              simp at h3
              omega
            have hm9 : MagD (wz.setCell ⟨gq, 0, none⟩ (.int .i64 (lo : Int))) (.slice A6 1 c6) a :=
              ⟨A6, c6, by rw [digs_one a0 ha]; rfl, by rw [digs_one a0 ha]; exact (RA6.out.later hbf).far (p := ⟨gq, 0, none⟩) hne _, by rw [digs_one a0 ha]; exact HC6.out⟩
            have kA9 := (kA.later hbf).far (p := ⟨gq, 0, none⟩) (show N ≠ gq by omega) (.int .i64 (lo : Int))
            have kB9 := kBz.far (p := ⟨gq, 0, none⟩) (show N + 1 ≠ gq by omega) (.int .i64 (lo : Int))
            have kR9 := (kR.later hbf).far (p := ⟨gq, 0, none⟩) (show N + 2 ≠ gq by omega) (.int .i64 (lo : Int))
            have kS9 := (kS.later hbf).far (p := ⟨gq, 0, none⟩) (show N + 3 ≠ gq by omega) (.int .i64 (lo : Int))
            have kq9 := kqz.set_ 0 (.int .i64 (lo : Int))
            have cq := kqz.cell
            have fq := kqz.frozen
            clear hlo hhi2 hblz hne hgo hlh hhi cB lB kBz kA kB kR kS kq MAG
            go_upto_region 13 with fail
            have HALL := And.intro kA9 (And.intro kB9 (And.intro kR9 (And.intro kS9 (And.intro kq9 (And.intro hb9 hm9)))))
            clear kA9 kB9 kR9 kS9 kq9 hb9 hm9 cq fq kqz hgz hbf
            revert HALL
            generalize wz.setCell ⟨gq, 0, none⟩ (.int .i64 (lo : Int)) = w9
            intro HALL
            obtain ⟨kA, kB, kR, kS, kq, hbl, hm9⟩ : Blk w9 N 45 #[.bool false, .slice (some ⟨ga, 0, none⟩) 1 ca] ∧ Blk w9 (N + 1) 45 #[.bool false, .slice B m cb] ∧ Blk w9 (N + 2) 45 #[.bool false, .slice none 0 0] ∧ Blk w9 (N + 3) 45 #[.bool false, .slice none 0 0] ∧ Blk w9 gq 3 #[.int .i64 (lo : Int)] ∧ Below N w w9 ∧ MagD w9 (.slice A6 1 c6) a := HALL
            have hbl2 : Below w.heap.size w w9 := by rw [HNe.out]; exact hbl
            have HTq := Lib.hid (HT.out w9 lo hbl2 hqb)
            have HM9 := Lib.hid hm9
            have cB := kB.cell
            have lB := kB.lt
            have hbf := Below.refl w9.heap.size w9
            obtain ⟨pm, hpme⟩ : ∃ pm, b * lo = pm := ⟨_, rfl⟩
            rw [hpme] at HTq hble hrr
            have HBLE := Lib.hid hble
            have HRR := Lib.hid hrr
            clear hpme hbl2 hm9 hble hrr
            go_wp2_with fail
            refine HTq.out.mono ?_
            rintro e w10 ⟨v10, rfl, hv10, hb10⟩
            have HLS := Lib.hid (less_any (.slice A6 1 c6) v10 a pm w10 (HM9.out.later hb10) hv10 (by rw [digs_one a0 ha]; simp) HBLE.out)
            rw [HRR.out] at HLS
            obtain ⟨A10, c10, rfl, _, _⟩ := hv10
            obtain ⟨n10, hn10⟩ : ∃ n, n = (digs pm).length := ⟨_, rfl⟩
            rw [← hn10] at HLS ⊢
            clear hn10 HTq cB lB
            go_wp2_with fail
            refine HLS.out.mono ?_
            rintro e w11 ⟨A11, n11, c11, o11, rfl, hrow11, hdig11, hlen11, hvad11, hcap11, hn11, hb11⟩
            have HL11 := Lib.hid (lean_mag A11 n11 c11 o11 r w11 hrow11 hdig11 hn11 hcap11 hvad11)
            have hb12 := hb10.trans (hb11.mono hb10.size)
            clear HLS hrow11 hdig11 hlen11 hvad11 hcap11 hn11 hb10 hb11
            go_wp2_with fail
            refine HL11.out.mono ?_
            rintro e w12 ⟨v12, rfl, hv12, hb13⟩
            have hb14 := hb12.trans (hb13.mono hb12.size)
            have HV12 := Lib.hid hv12
            obtain ⟨A12, c12, rfl, _, _⟩ := hv12
            obtain ⟨n12, hn12⟩ : ∃ n, n = (digs r).length := ⟨_, rfl⟩
            rw [← hn12] at HV12 ⊢
            have hfd := fld45 false A12 n12 c12
            have hszN := hbl.size
            rw [HNe.out] at hszN
            have FIN := Lib.hid (And.intro (kA.later hb14) (And.intro (kB.later hb14) (And.intro (kR.later hb14) (And.intro (kS.later hb14) (And.intro (kq.later hb14) (hbl.trans (hb14.mono hszN)))))))
            clear hn12 HL11 hb12 hb13 hb14 kA kB kR kS kq hbl hbf
            go_wp2_with fail
            go_roundw
            case rel => exact ⟨.inr ⟨by first | rfl | go_num, HV12.out, FIN.out.2.2.2.2.1⟩, FIN.out.1, FIN.out.2.1, FIN.out.2.2.1, FIN.out.2.2.2.1, FIN.out.2.2.2.2.2⟩
            case measure => simp [intOf]
    · obtain ⟨Ar, cr, rfl, rAr, hcr⟩ := hrv
      have hrl : (digs r).length ≤ 1000 := Nat.le_trans (digs_le 1 r (by have := HR.out; have := Nat.mod_lt a b0; omega)) (by omega)
      have HRL := Lib.hid fun V (h : Below wq.heap.size wq V) => lean_mag Ar (digs r).length cr (digs r) r V (rAr.later h) (digs_digit r) hrl hcr (vad_digs r)
      obtain ⟨nr, hnr⟩ : ∃ n, n = (digs r).length := ⟨_, rfl⟩
      rw [← hnr] at HRL ⊢
      clear hnr hrl rAr hcr HT QA HQ HR
      have cA := kA.cell
      have lA := kA.lt
      have HQ := Lib.hid fun V (h : Below wq.heap.size wq V) => lean_mag (some ⟨gq, 0, none⟩) 1 1 [q] q V ((row_of (l := [q]) (n := 1) kq rfl).later h) (fun x hx => by simp at hx; omega) (by omega) (Nat.le_refl _) (by simp [vad])
      have HRR : Hid (∀ V, Below wq.heap.size wq V → Calls Tryz.prog 53 #[.agg #[.bool false, .slice Ar nr cr]] V fun e w' => ∃ v, e = .returned (.agg #[.bool false, v]) ∧ MagD w' v r ∧ Below V.heap.size V w') := HRL.out
      go_wp2_with fail
      refine (HQ.out _ (Below.refl _ _)).mono ?_
      rintro e w5 ⟨v12, rfl, hv12, hb5⟩
      clear HQ cA lA
      go_wp2_with fail
      refine (HRR.out _ hb5).mono ?_
      rintro e w6 ⟨v13, rfl, hv13, hb6⟩
      have hb7 := hb5.trans (hb6.mono hb5.size)
      replace hv12 := hv12.later hb6
      clear HRR
      have hba : Below w6.heap.size w6 ((w6.alloc (.cells #[.bool false, v12] 45)).alloc (.cells #[.bool false, v13] 45)) := ((Below.refl _ _).alloc (Nat.le_refl _) _).alloc (by simp) _
      have k12 := (Blk.new w6 45 #[.bool false, v12]).alloc (.cells #[.bool false, v13] 45)
      have k13 := Blk.new (w6.alloc (.cells #[.bool false, v12] 45)) 45 #[.bool false, v13]
      have e6 : (w6.alloc (.cells #[.bool false, v12] 45)).heap.size = w6.heap.size + 1 := by simp
      rw [e6] at k13
      have hb8 := hb7.trans (hba.mono hb7.size)
      have hb9 := hbl.trans (hb8.mono (by have := hbl.size; rw [HNe.out] at this; exact this))
      replace hv12 := hv12.later hba
      replace hv13 := hv13.later hba
      have kA9 := kA.later hb8
      have kR9 := kR.later hb8
      have kS9 := kS.later hb8
      have hg12 : N + 3 < w6.heap.size := Nat.lt_of_lt_of_le kS.lt hb7.size
      obtain ⟨A12, c12, rfl, _, _⟩ := id hv12
      obtain ⟨A13, c13, rfl, _, _⟩ := id hv13
      have hd0 := hb5
      clear hd0 hb5 hb6 hba e6 hbl
      go_upto_region 15 with fail
      have HALL := And.intro k12 (And.intro k13 (And.intro hb9 (And.intro hv12 (And.intro hv13 (And.intro kA9 (And.intro kR9 (And.intro kS9 hg12)))))))
      clear k12 k13 hb9 kA9 kR9 kS9 hv12 hv13 hg12
      revert HALL
      generalize (w6.alloc (.cells #[.bool false, .slice A12 (digs q).length c12] 45)).alloc (.cells #[.bool false, .slice A13 (digs r).length c13] 45) = w7
      generalize w6.heap.size = g12
      generalize hl12 : (digs q).length = n12
      generalize hl13 : (digs r).length = n13
      intro HALL
      obtain ⟨k12, k13, hb9, hv12, hv13, kA9, kR9, kS9, hg12⟩ : Blk w7 g12 45 #[.bool false, .slice A12 n12 c12] ∧ Blk w7 (g12 + 1) 45 #[.bool false, .slice A13 n13 c13] ∧ Below N w w7 ∧ MagD w7 (.slice A12 n12 c12) q ∧ MagD w7 (.slice A13 n13 c13) r ∧ Blk w7 N 45 #[.bool false, .slice (some ⟨ga, 0, none⟩) 1 ca] ∧ Blk w7 (N + 2) 45 #[.bool false, .slice none 0 0] ∧ Blk w7 (N + 3) 45 #[.bool false, .slice none 0 0] ∧ N + 3 < g12 := HALL
      have cA9 := kA9.cell
      have lA9 := kA9.lt
      go_wp2_with fail
      clear cA9 lA9 kA9
      refine held_var (S := fun V => Blk V g12 45 #[.bool false, .slice A12 n12 c12] ∧ Blk V (g12 + 1) 45 #[.bool false, .slice A13 n13 c13]) (by kernel_rfl) ⟨k12.drew, k13.drew⟩ (fun V0 hV0 hSS => ?_)
      have D12 := hSS.1
      have D13 := hSS.2
      have hR0 : Blk V0 (N + 2) 45 #[.bool false, .slice none 0 0] := by rw [hV0]; exact kR9.drew
      have hS0' : Blk V0 (N + 3) 45 #[.bool false, .slice none 0 0] := by rw [hV0]; exact kS9.drew
      have hv120 : MagD V0 (.slice A12 n12 c12) q := by rw [hV0]; exact hv12.later (Below.refl _ _).drew
      have hv130 : MagD V0 (.slice A13 n13 c13) r := by rw [hV0]; exact hv13.later (Below.refl _ _).drew
      have hb90 : Below N w V0 := by rw [hV0]; exact hb9.drew
      clear hV0
      have hR1 : Blk _ (N + 2) 45 #[.bool false, .slice none 0 0] := hR0.set_ 0 (.bool false)
      have hR2 : Blk _ (N + 2) 45 #[.bool false, .slice A12 n12 c12] := hR1.set_ 1 (.slice A12 n12 c12)
      have E12 := ((D12).far (p := ⟨N + 2, 0, none⟩) (show g12 ≠ N + 2 by omega) (.bool false)).far (p := ⟨N + 2, 1, none⟩) (show g12 ≠ N + 2 by omega) (.slice A12 n12 c12)
      have E13 := ((D13).far (p := ⟨N + 2, 0, none⟩) (show g12 + 1 ≠ N + 2 by omega) (.bool false)).far (p := ⟨N + 2, 1, none⟩) (show g12 + 1 ≠ N + 2 by omega) (.slice A12 n12 c12)
      have hS1 : Blk _ (N + 3) 45 #[.bool false, .slice none 0 0] := ((hS0').far (p := ⟨N + 2, 0, none⟩) (show N + 3 ≠ N + 2 by omega) (.bool false)).far (p := ⟨N + 2, 1, none⟩) (show N + 3 ≠ N + 2 by omega) (.slice A12 n12 c12)
      have hS2 : Blk _ (N + 3) 45 #[.bool false, .slice none 0 0] := hS1.set_ 0 (.bool false)
      have hS3 : Blk _ (N + 3) 45 #[.bool false, .slice A13 n13 c13] := hS2.set_ 1 (.slice A13 n13 c13)
      have hR3 := ((hR2).far (p := ⟨N + 3, 0, none⟩) (show N + 2 ≠ N + 3 by omega) (.bool false)).far (p := ⟨N + 3, 1, none⟩) (show N + 2 ≠ N + 3 by omega) (.slice A13 n13 c13)
      have F12 := ((E12).far (p := ⟨N + 3, 0, none⟩) (show g12 ≠ N + 3 by omega) (.bool false)).far (p := ⟨N + 3, 1, none⟩) (show g12 ≠ N + 3 by omega) (.slice A13 n13 c13)
      have F13 := ((E13).far (p := ⟨N + 3, 0, none⟩) (show g12 + 1 ≠ N + 3 by omega) (.bool false)).far (p := ⟨N + 3, 1, none⟩) (show g12 + 1 ≠ N + 3 by omega) (.slice A13 n13 c13)
      have HM1 := Lib.hid (((hv120.far (r := [.slice none 0 0]) hR0 (p := ⟨N + 2, 0, none⟩) rfl (.bool false)).far (r := [.slice none 0 0]) hR1 (p := ⟨N + 2, 1, none⟩) rfl (.slice A12 n12 c12)).far (r := [.slice none 0 0]) hS1 (p := ⟨N + 3, 0, none⟩) rfl (.bool false) |>.far (r := [.slice none 0 0]) hS2 (p := ⟨N + 3, 1, none⟩) rfl (.slice A13 n13 c13))
      have HM2 := Lib.hid (((hv130.far (r := [.slice none 0 0]) hR0 (p := ⟨N + 2, 0, none⟩) rfl (.bool false)).far (r := [.slice none 0 0]) hR1 (p := ⟨N + 2, 1, none⟩) rfl (.slice A12 n12 c12)).far (r := [.slice none 0 0]) hS1 (p := ⟨N + 3, 0, none⟩) rfl (.bool false) |>.far (r := [.slice none 0 0]) hS2 (p := ⟨N + 3, 1, none⟩) rfl (.slice A13 n13 c13))
      have HB := Lib.hid ((((hb90.setCell (p := ⟨N + 2, 0, none⟩) (show N ≤ N + 2 by omega) (.bool false)).setCell (p := ⟨N + 2, 1, none⟩) (show N ≤ N + 2 by omega) (.slice A12 n12 c12)).setCell (p := ⟨N + 3, 0, none⟩) (show N ≤ N + 3 by omega) (.bool false)).setCell (p := ⟨N + 3, 1, none⟩) (show N ≤ N + 3 by omega) (.slice A13 n13 c13))
      have HR3 := Lib.hid hR3
      have HS3 := Lib.hid hS3
      have HF := Lib.hid (And.intro F12 F13)
      have HE := Lib.hid (And.intro E12 E13)
      clear hv12 hv13 hb9 kR9 kS9 k12 k13 hR3 hS3 F12 F13 E12 E13 hS0' hv120 hv130 hb90
      refine wpAnyH_take (i := 0) (v := ?_) rfl (by kernel_rfl) (by kernel_rfl) (by kernel_rfl) (fun _ _ _ h => h) (Or.inl ⟨by rfl, ?hy⟩) (by assumption) ?_
      case hy => (intro w hSw; have cA := hSw.1.cell; have lA := hSw.1.lt; have cB := hSw.2.cell; have lB := hSw.2.lt; clear hSw; go_simp; try with_reducible rfl)
      refine wpAnyH_take (i := 1) (v := ?_) rfl (by kernel_rfl) (by kernel_rfl) (by kernel_rfl) (fun _ _ _ h => h) (Or.inl ⟨by rfl, ?hy⟩) (by assumption) ?_
      case hy => (intro w hSw; have cA := hSw.1.cell; have lA := hSw.1.lt; have cB := hSw.2.cell; have lB := hSw.2.lt; clear hSw; go_simp; try with_reducible rfl)
      simp only [Act.put, List.getElem_toArray, List.getElem_cons_succ, List.getElem_cons_zero, List.setIfInBounds_toArray, List.set_cons_succ, List.set_cons_zero]
      have cR := hR0.cell
      have fR := hR0.frozen
      have lR := hR0.lt
      clear hR0 D12 D13
      refine wpAnyH_ready (rs := [2]) (by kernel_rfl) (by simp) (AllReadyH.cons rfl (fun K hK => ?_) AllReadyH.nil)
      go_simp
      refine hK.out _ _ HE.out (fun _ => ?_)
      clear hK K cR fR lR hR1 hR2 hSS
      have cS := hS1.cell
      have fS := hS1.frozen
      have lS := hS1.lt
      have cS2 := hS2.cell
      have fS2 := hS2.frozen
      clear hS1 hS2
      refine wpAnyH_ready (rs := [3]) (by kernel_rfl) (by simp) (AllReadyH.cons rfl (fun K hK => ?_) AllReadyH.nil)
      go_simp
      refine hK.out _ _ HF.out (fun _ => ?_)
      clear hK K cS fS lS cS2 fS2
      refine wpAnyH_done (by kernel_rfl) ?_ _
      go_wp2_with fail
      refine bodyPost_cell2 (N + 2) 45 #[.bool false, .slice A12 n12 c12] (N + 3) 45 #[.bool false, .slice A13 n13 c13] (.tuple #[.agg #[.bool false, .slice A12 n12 c12], .agg #[.bool false, .slice A13 n13 c13]]) HR3.out HS3.out ?_ ⟨_, _, rfl, HM1.out, HM2.out, by rw [HNe.out]; exact HB.out⟩
      intro W' hW1 hW2
      simp [results, Tryz.results69, go_sem, hW1, hW2]
/-- Quotient and rest. -/
theorem divmod_any (va vb : Value) (a b : Nat) (w : World) (ha : MagD w va a) (hb : MagD w vb b) (ha2 : a < 10000) (hb2 : b < 10000) (b0 : 0 < b) : Calls Tryz.prog 69 #[.agg #[.bool false, va], .agg #[.bool false, vb]] w (DivZ w (a / b) (a % b)) := by
  rcases Nat.eq_zero_or_pos a with rfl | h0
  · obtain ⟨A, c, rfl⟩ := magD_zero ha
    obtain ⟨B, d, rfl, _, _⟩ := hb
    exact divmod_zero A B _ c d _ _ (by rw [Nat.zero_div]; rfl) (by rw [Nat.zero_mod]; rfl) w
  · obtain ⟨g, c, rfl, hg, hc⟩ := magD_one ha h0 ha2
    have hb' := hb
    obtain ⟨B, d, rfl, _, _⟩ := hb
    exact divmod_pos g c B _ d a b _ _ w hg hc h0 ha2 b0 hb2 hb' rfl rfl
end Go.Proofs.YtpklcjbdmikbdaaGreat
namespace Go.Proofs.YtpklcjbdmikbdaaGreat
set_option maxRecDepth 100000
open Go.RowKit

set_option maxHeartbeats 8000000 in
theorem abs_any (A : Option Addr) (n c : Nat) (w : World) : Calls Tryz.prog 85 #[.agg #[.bool false, .slice A n c]] w fun e w' => e = .returned (.agg #[.bool false, .slice A n c]) ∧ Below w.heap.size w w' := by
  have e1 : (w.alloc (.cells #[.bool false, .slice A n c] 45)).heap.size = w.heap.size + 1 := by simp
  have kZ := (Blk.new w 45 #[.bool false, .slice A n c]).alloc (.cells #[.bool false, .slice none 0 0] 45)
  have kR := Blk.new (w.alloc (.cells #[.bool false, .slice A n c] 45)) 45 #[.bool false, .slice none 0 0]
  rw [e1] at kR
  have hb1 : Below w.heap.size w ((w.alloc (.cells #[.bool false, .slice A n c] 45)).alloc (.cells #[.bool false, .slice none 0 0] 45)) := ((Below.refl _ _).alloc (Nat.le_refl _) _).alloc (by simp) _
  clear e1
  go_enter Tryz.func85, Tryz.ntmps85
  go_upto_region 1 with fail
  revert kZ kR hb1
  generalize (w.alloc (.cells #[.bool false, .slice A n c] 45)).alloc (.cells #[.bool false, .slice none 0 0] 45) = w1
  generalize hNe : w.heap.size = N
  intro kZ kR hb1
  have HNe := Lib.hid hNe
  clear hNe
  have kZ2 : Blk _ N 45 #[.bool false, .slice A n c] := kZ.set_ 0 (.bool false)
  have kR2 : Blk _ (N + 1) 45 #[.bool false, .slice none 0 0] := kR.far (p := ⟨N, 0, none⟩) (show N + 1 ≠ N by omega) (.bool false)
  have hb2 := hb1.setCell (p := ⟨N, 0, none⟩) (Nat.le_refl _) (.bool false)
  have cZ := kZ.cell
  have fZ := kZ.frozen
  have lZ := kZ.lt
  go_upto_region 2 with fail
  clear cZ fZ lZ kZ kR hb1
  revert kZ2 kR2 hb2
  generalize w1.setCell ⟨N, 0, none⟩ (.bool false) = w2
  intro kZ kR hb
  have cZ := kZ.cell
  have lZ := kZ.lt
  have cR := kR.cell
  have fR := kR.frozen
  have lR := kR.lt
  have hR1 : Blk _ (N + 1) 45 #[.bool false, .slice none 0 0] := kR.set_ 0 (.bool false)
  have hR2 : Blk _ (N + 1) 45 #[.bool false, .slice A n c] := hR1.set_ 1 (.slice A n c)
  have HB := Lib.hid ((hb.setCell (p := ⟨N + 1, 0, none⟩) (show N ≤ N + 1 by omega) (.bool false)).setCell (p := ⟨N + 1, 1, none⟩) (show N ≤ N + 1 by omega) (.slice A n c))
  have HR2 := Lib.hid hR2
  clear hR1 hR2 kZ kR hb
  go_wp2_with fail
  refine bodyPost_cell (N + 1) 45 #[.bool false, .slice A n c] (.agg #[.bool false, .slice A n c]) HR2.out ?_ ⟨rfl, by rw [HNe.out]; exact HB.out⟩
  intro W' hW'
  simp [results, Tryz.results85, go_sem, hW']
set_option maxHeartbeats 16000000 in
theorem gcdZ_any (va vb : Value) (a b : Nat) (w : World) (ha : MagD w va a) (hb : MagD w vb b) (ha2 : a < 10000) (hb2 : b < 10000) : Calls Tryz.prog 68 #[.agg #[.bool false, va], .agg #[.bool false, vb]] w fun e w' => ∃ v, e = .returned (.agg #[.bool false, v]) ∧ MagD w' v (a.gcd b) ∧ Below w.heap.size w w' := by
  have HMA : Hid (∀ V, Below w.heap.size w V → MagD V va a) := fun V h => ha.later h
  have HMB : Hid (∀ V, Below w.heap.size w V → MagD V vb b) := fun V h => hb.later h
  obtain ⟨A, ca, rfl, _, _⟩ := ha
  obtain ⟨B, cb, rfl, _, _⟩ := hb
  obtain ⟨n, hn⟩ : ∃ n, n = (digs a).length := ⟨_, rfl⟩
  obtain ⟨m, hm⟩ : ∃ m, m = (digs b).length := ⟨_, rfl⟩
  rw [← hn] at HMA ⊢
  rw [← hm] at HMB ⊢
  clear hn hm
  have e3 : ((w.alloc (.cells #[.bool false, .slice A n ca] 45)).alloc (.cells #[.bool false, .slice B m cb] 45)).heap.size = w.heap.size + 2 := by simp
  have e1 : (w.alloc (.cells #[.bool false, .slice A n ca] 45)).heap.size = w.heap.size + 1 := by simp
  have kA := ((Blk.new w 45 #[.bool false, .slice A n ca]).alloc (.cells #[.bool false, .slice B m cb] 45)).alloc (.cells #[.bool false, .slice none 0 0] 45)
  have kB := (Blk.new (w.alloc (.cells #[.bool false, .slice A n ca] 45)) 45 #[.bool false, .slice B m cb]).alloc (.cells #[.bool false, .slice none 0 0] 45)
  have kR := Blk.new ((w.alloc (.cells #[.bool false, .slice A n ca] 45)).alloc (.cells #[.bool false, .slice B m cb] 45)) 45 #[.bool false, .slice none 0 0]
  rw [e1] at kB
  rw [e3] at kR
  have hb1 : Below w.heap.size w (((w.alloc (.cells #[.bool false, .slice A n ca] 45)).alloc (.cells #[.bool false, .slice B m cb] 45)).alloc (.cells #[.bool false, .slice none 0 0] 45)) :=
    (((Below.refl _ _).alloc (Nat.le_refl _) _).alloc (by simp) _).alloc (by simp; omega) _
  clear e1 e3
  go_enter Tryz.func68, Tryz.ntmps68
  go_upto_region 1 with fail
  revert kA kB kR hb1
  generalize ((w.alloc (.cells #[.bool false, .slice A n ca] 45)).alloc (.cells #[.bool false, .slice B m cb] 45)).alloc (.cells #[.bool false, .slice none 0 0] 45) = wq
  generalize hNe : w.heap.size = N
  intro kA kB kR hb1
  have HNe := Lib.hid hNe
  have hsz := hb1.size
  rw [hNe] at hsz
  clear hNe
  have lR := kR.lt
  refine held_var (S := fun V => Blk V N 45 #[.bool false, .slice A n ca] ∧ Blk V (N + 1) 45 #[.bool false, .slice B m cb]) (by kernel_rfl) ⟨kA.drew, kB.drew⟩ (fun V0 hV0 hS0 => ?_)
  have hb0 : Below wq.heap.size wq V0 := by rw [hV0]; exact (Below.refl _ _).drew
  clear hV0
  refine wpAnyH_take (i := 0) (v := ?_) rfl (by kernel_rfl) (by kernel_rfl) (by kernel_rfl) (fun _ _ _ h => h) (Or.inl ⟨by rfl, ?hy⟩) (by assumption) ?_
  case hy => (intro w hSw; have cA := hSw.1.cell; have lA := hSw.1.lt; have cB := hSw.2.cell; have lB := hSw.2.lt; clear hSw; go_simp; try with_reducible rfl)
  refine wpAnyH_take (i := 2) (v := ?_) rfl (by kernel_rfl) (by kernel_rfl) (by kernel_rfl) (fun _ _ _ h => h) (Or.inl ⟨by rfl, ?hy⟩) (by assumption) ?_
  case hy => (intro w hSw; have cA := hSw.1.cell; have lA := hSw.1.lt; have cB := hSw.2.cell; have lB := hSw.2.lt; clear hSw; go_simp; try with_reducible rfl)
  simp only [Act.put, List.getElem_toArray, List.getElem_cons_succ, List.getElem_cons_zero, List.setIfInBounds_toArray, List.set_cons_succ, List.set_cons_zero]
  refine wpAnyH_ready (rs := [1]) (by kernel_rfl) (by simp) (AllReadyH.cons rfl (fun K hK => ?_) AllReadyH.nil)
  go_simp
  refine (abs_any A n ca V0).mono ?_
  rintro e V1 ⟨rfl, hbX⟩
  replace hb0 := hb0.trans (hbX.mono hb0.size)
  refine hK.out _ _ ⟨kA.later hb0, kB.later hb0⟩ (fun _ => ?_)
  clear hK K hbX
  refine wpAnyH_ready (rs := [3]) (by kernel_rfl) (by simp) (AllReadyH.cons rfl (fun K hK => ?_) AllReadyH.nil)
  go_simp
  refine (abs_any B m cb V1).mono ?_
  rintro e V2 ⟨rfl, hbX⟩
  replace hb0 := hb0.trans (hbX.mono hb0.size)
  refine hK.out _ _ ⟨kA.later hb0, kB.later hb0⟩ (fun _ => ?_)
  clear hK K hbX
  have hA0 := kA.later hb0
  have hB0 := kB.later hb0
  have hR0 := kR.later hb0
  have hA1 : Blk _ N 45 #[.bool false, .slice A n ca] := hA0.set_ 0 (.bool false)
  have hA2 : Blk _ N 45 #[.bool false, .slice A n ca] := hA1.set_ 1 (.slice A n ca)
  have hB1 : Blk _ (N + 1) 45 #[.bool false, .slice B m cb] := ((hB0).far (p := ⟨N, 0, none⟩) (show N + 1 ≠ N by omega) (.bool false)).far (p := ⟨N, 1, none⟩) (show N + 1 ≠ N by omega) (.slice A n ca)
  have hB2 : Blk _ (N + 1) 45 #[.bool false, .slice B m cb] := hB1.set_ 0 (.bool false)
  have hB3 : Blk _ (N + 1) 45 #[.bool false, .slice B m cb] := hB2.set_ 1 (.slice B m cb)
  have hA3 : Blk _ N 45 #[.bool false, .slice A n ca] := ((hA2).far (p := ⟨N + 1, 0, none⟩) (show N ≠ N + 1 by omega) (.bool false)).far (p := ⟨N + 1, 1, none⟩) (show N ≠ N + 1 by omega) (.slice B m cb)
  have hR2 : Blk _ (N + 2) 45 #[.bool false, .slice none 0 0] := ((((hR0).far (p := ⟨N, 0, none⟩) (show N + 2 ≠ N by omega) (.bool false)).far (p := ⟨N, 1, none⟩) (show N + 2 ≠ N by omega) (.slice A n ca)).far (p := ⟨N + 1, 0, none⟩) (show N + 2 ≠ N + 1 by omega) (.bool false)).far (p := ⟨N + 1, 1, none⟩) (show N + 2 ≠ N + 1 by omega) (.slice B m cb)
  have HB := Lib.hid (((((hb1.trans (hb0.mono hsz)).setCell (p := ⟨N, 0, none⟩) (Nat.le_refl _) (.bool false)).setCell (p := ⟨N, 1, none⟩) (Nat.le_refl _) (.slice A n ca)).setCell (p := ⟨N + 1, 0, none⟩) (show N ≤ N + 1 by omega) (.bool false)).setCell (p := ⟨N + 1, 1, none⟩) (show N ≤ N + 1 by omega) (.slice B m cb))
  have HF := Lib.hid (And.intro hA3 hB3)
  have HR2 := Lib.hid hR2
  have HE := Lib.hid (And.intro hA2 hB1)
  have cA0 := hA0.cell
  have fA0 := hA0.frozen
  have lA0 := hA0.lt
  have cA1 := hA1.cell
  have fA1 := hA1.frozen
  have cB1 := hB1.cell
  have fB1 := hB1.frozen
  have lB1 := hB1.lt
  have cB2 := hB2.cell
  have fB2 := hB2.frozen
  clear hA0 hB0 hR0 hA1 hA2 hB1 hB2 hB3 hA3 hR2 hb0 kA kB kR hb1
  refine wpAnyH_ready (rs := [4]) (by kernel_rfl) (by simp) (AllReadyH.cons rfl (fun K hK => ?_) AllReadyH.nil)
  go_simp
  refine hK.out _ _ HE.out (fun _ => ?_)
  clear hK K cA0 fA0 lA0 cA1 fA1
  refine wpAnyH_ready (rs := [5]) (by kernel_rfl) (by simp) (AllReadyH.cons rfl (fun K hK => ?_) AllReadyH.nil)
  go_simp
  refine hK.out _ _ HF.out (fun _ => ?_)
  clear hK K cB1 fB1 lB1 cB2 fB2
  refine wpAnyH_done (by kernel_rfl) ?_ _
  have HALL := And.intro HF.out (And.intro HR2.out HB.out)
  clear HF HR2 HB HE
  revert HALL
  generalize (((V2.setCell ⟨N, 0, none⟩ (.bool false)).setCell ⟨N, 1, none⟩ (.slice A n ca)).setCell ⟨N + 1, 0, none⟩ (.bool false)).setCell ⟨N + 1, 1, none⟩ (.slice B m cb) = w3
  intro HALL
  obtain ⟨⟨kA, kB⟩, kR, hb⟩ := HALL
  go_wp2_with fail
  go_loopg [11] b (fun k _ wr => ∃ (x : Nat) (A3 : Option Addr) (n3 ca3 : Nat) (B3 : Option Addr) (m3 cb3 : Nat), Blk wr N 45 #[.bool false, .slice A3 n3 ca3] ∧ Blk wr (N + 1) 45 #[.bool false, .slice B3 m3 cb3] ∧ Blk wr (N + 2) 45 #[.bool false, .slice none 0 0] ∧ MagD wr (.slice A3 n3 ca3) x ∧ MagD wr (.slice B3 m3 cb3) k ∧ Hid (x.gcd k = a.gcd b) ∧ x < 10000 ∧ k < 10000 ∧ Below N w wr)
  case atStart => exact ⟨a, A, n, ca, B, m, cb, kA, kB, kR, HMA.out w3 (by rw [HNe.out]; exact hb), HMB.out w3 (by rw [HNe.out]; exact hb), rfl, ha2, hb2, hb⟩
  case round =>
    clear kA kB kR hb
    obtain ⟨x, A3, n3, ca3, B3, m3, cb3, kA, kB, kR, hx, hy, hg, hx4, hk4, hb⟩ := hrel
    obtain ⟨wq, hwq⟩ : ∃ x, x = wr := ⟨_, rfl⟩
    subst hwq
    have hmk : m3 = (digs gk).length := by
      obtain ⟨_, _, e, _, _⟩ := hy
      injection e
    have cB := kB.cell
    have lB := kB.lt
    rcases Nat.eq_zero_or_pos gk with h0 | h0
    · have hm0 : m3 = 0 := by rw [hmk, h0]; exact digs_nil.2 rfl
      have HG : Hid (x = a.gcd b) := by
        have := hg.out
        rw [h0, Nat.gcd_zero_right] at this
        exact this
      subst hm0
      have cA := kA.cell
      have lA := kA.lt
      have cR := kR.cell
      have fR := kR.frozen
      have lR := kR.lt
      have hR1 : Blk _ (N + 2) 45 #[.bool false, .slice none 0 0] := kR.set_ 0 (.bool false)
      have HR2 : Hid (Blk _ (N + 2) 45 #[.bool false, .slice A3 n3 ca3]) := hR1.set_ 1 (.slice A3 n3 ca3)
      have HM := Lib.hid ((hx.far (r := [.slice none 0 0]) kR (p := ⟨N + 2, 0, none⟩) rfl (.bool false)).far (r := [.slice none 0 0]) hR1 (p := ⟨N + 2, 1, none⟩) rfl (.slice A3 n3 ca3))
      have HB := Lib.hid ((hb.setCell (p := ⟨N + 2, 0, none⟩) (show N ≤ N + 2 by omega) (.bool false)).setCell (p := ⟨N + 2, 1, none⟩) (show N ≤ N + 2 by omega) (.slice A3 n3 ca3))
      clear hx hy hg hb hR1 hmk h0 kA kB kR
      go_wp2_with fail
      refine bodyPost_cell (N + 2) 45 #[.bool false, .slice A3 n3 ca3] (.agg #[.bool false, .slice A3 n3 ca3]) HR2.out ?_ ⟨_, rfl, by rw [← HG.out]; exact HM.out, by rw [HNe.out]; exact HB.out⟩
      intro W' hW'
      simp [results, Tryz.results68, go_sem, hW']
    · have hm0 : 0 < m3 := by
        rw [hmk]
        rcases Nat.eq_zero_or_pos (digs gk).length with h1 | h1
        · have := digs_nil.1 h1; omega
        · exact h1
      have hmd : decide ((m3 : Int) > 0) = true := decide_eq_true (by omega)
      have HD := Lib.hid (divmod_any (.slice A3 n3 ca3) (.slice B3 m3 cb3) x gk wq hx hy hx4 hk4 h0)
      have HY := Lib.hid hy
      have HG : Hid (gk.gcd (x % gk) = a.gcd b) := by
        show _ = _
        rw [← hg.out, Nat.gcd_comm x gk, Nat.gcd_rec gk x, Nat.gcd_comm]
      have hlt := Nat.mod_lt x h0
      have cA := kA.cell
      have lA := kA.lt
      obtain ⟨rr, hrr⟩ : ∃ r, r = x % gk := ⟨_, rfl⟩
      rw [← hrr] at HG hlt
      have HRR := Lib.hid hrr
      clear hx hy hg hmk hrr
      go_wp2_with fail
      refine HD.out.mono ?_
      rintro e w5 ⟨v5, u5, rfl, hv5, hu5, hb5⟩
      obtain ⟨A5, c5, rfl, _, _⟩ := hv5
      generalize (digs (x / gk)).length = n5 at *
      rw [← HRR.out] at hu5
      have hba : Below w5.heap.size w5 ((w5.alloc (.cells #[.bool false, .slice A5 n5 c5] 45)).alloc (.cells #[.bool false, u5] 45)) := ((Below.refl _ _).alloc (Nat.le_refl _) _).alloc (by simp) _
      have e6 : (w5.alloc (.cells #[.bool false, .slice A5 n5 c5] 45)).heap.size = w5.heap.size + 1 := by simp
      have k6 := Blk.new (w5.alloc (.cells #[.bool false, .slice A5 n5 c5] 45)) 45 #[.bool false, u5]
      rw [e6] at k6
      have hb6 := hb5.trans (hba.mono hb5.size)
      replace hu5 := hu5.later hba
      have hy6 := HY.out.later hb6
      have hszq := hb.size
      rw [HNe.out] at hszq
      have hA6 := kA.later hb6
      have hB6 := kB.later hb6
      have hR6 := kR.later hb6
      have hbw := hb.trans (hb6.mono hszq)
      have hg6 : N + 2 < w5.heap.size := Nat.lt_of_lt_of_le kR.lt hb5.size
      obtain ⟨A6, c6, rfl, _, _⟩ := id hu5
      obtain ⟨n6, hn6⟩ : ∃ n, n = (digs rr).length := ⟨_, rfl⟩
      rw [← hn6] at hu5 k6 hA6 hB6 hR6 hbw hy6 ⊢
      clear hn6 HD hb5 hba e6 hb6 cA cB lA lB kA kB kR hb HY
      go_upto_region 4 with fail
      have HALL := And.intro k6 (And.intro hu5 (And.intro hy6 (And.intro hA6 (And.intro hB6 (And.intro hR6 (And.intro hbw hg6))))))
      clear k6 hu5 hy6 hA6 hB6 hR6 hbw hg6
      revert HALL
      generalize (w5.alloc (.cells #[.bool false, .slice A5 n5 c5] 45)).alloc (.cells #[.bool false, .slice A6 n6 c6] 45) = w7
      generalize w5.heap.size = g5
      intro HALL
      obtain ⟨k6, hu5, hy6, kA, kB, kR, hbw, hg6⟩ : Blk w7 (g5 + 1) 45 #[.bool false, .slice A6 n6 c6] ∧ MagD w7 (.slice A6 n6 c6) rr ∧ MagD w7 (.slice B3 m3 cb3) gk ∧ Blk w7 N 45 #[.bool false, .slice A3 n3 ca3] ∧ Blk w7 (N + 1) 45 #[.bool false, .slice B3 m3 cb3] ∧ Blk w7 (N + 2) 45 #[.bool false, .slice none 0 0] ∧ Below N w w7 ∧ N + 2 < g5 := HALL
      refine held_var (S := fun V => Blk V (g5 + 1) 45 #[.bool false, .slice A6 n6 c6]) (by kernel_rfl) k6.drew (fun V0 hV0 hS0 => ?_)
      have k60 : Blk V0 (g5 + 1) 45 #[.bool false, .slice A6 n6 c6] := by rw [hV0]; exact k6.drew
      have hu50 : MagD V0 (.slice A6 n6 c6) rr := by rw [hV0]; exact hu5.later (Below.refl _ _).drew
      have hy60 : MagD V0 (.slice B3 m3 cb3) gk := by rw [hV0]; exact hy6.later (Below.refl _ _).drew
      have hA0 : Blk V0 N 45 #[.bool false, .slice A3 n3 ca3] := by rw [hV0]; exact kA.drew
      have hB0 : Blk V0 (N + 1) 45 #[.bool false, .slice B3 m3 cb3] := by rw [hV0]; exact kB.drew
      have hR0 : Blk V0 (N + 2) 45 #[.bool false, .slice none 0 0] := by rw [hV0]; exact kR.drew
      have hbw0 : Below N w V0 := by rw [hV0]; exact hbw.drew
      clear hV0 k6 hu5 hy6 kA kB kR hbw
      have hA1 : Blk _ N 45 #[.bool false, .slice A3 n3 ca3] := hA0.set_ 0 (.bool false)
      have hA2 : Blk _ N 45 #[.bool false, .slice B3 m3 cb3] := hA1.set_ 1 (.slice B3 m3 cb3)
      have hB1 : Blk _ (N + 1) 45 #[.bool false, .slice B3 m3 cb3] := ((hB0).far (p := ⟨N, 0, none⟩) (show N + 1 ≠ N by omega) (.bool false)).far (p := ⟨N, 1, none⟩) (show N + 1 ≠ N by omega) (.slice B3 m3 cb3)
      have hB2 : Blk _ (N + 1) 45 #[.bool false, .slice B3 m3 cb3] := hB1.set_ 0 (.bool false)
      have hB3 : Blk _ (N + 1) 45 #[.bool false, .slice A6 n6 c6] := hB2.set_ 1 (.slice A6 n6 c6)
      have hA3 : Blk _ N 45 #[.bool false, .slice B3 m3 cb3] := ((hA2).far (p := ⟨N + 1, 0, none⟩) (show N ≠ N + 1 by omega) (.bool false)).far (p := ⟨N + 1, 1, none⟩) (show N ≠ N + 1 by omega) (.slice A6 n6 c6)
      have hR2 : Blk _ (N + 2) 45 #[.bool false, .slice none 0 0] := ((((hR0).far (p := ⟨N, 0, none⟩) (show N + 2 ≠ N by omega) (.bool false)).far (p := ⟨N, 1, none⟩) (show N + 2 ≠ N by omega) (.slice B3 m3 cb3)).far (p := ⟨N + 1, 0, none⟩) (show N + 2 ≠ N + 1 by omega) (.bool false)).far (p := ⟨N + 1, 1, none⟩) (show N + 2 ≠ N + 1 by omega) (.slice A6 n6 c6)
      have HM1 := Lib.hid ((((hy60.far (r := [.slice A3 n3 ca3]) hA0 (p := ⟨N, 0, none⟩) rfl (.bool false)).far (r := [.slice A3 n3 ca3]) hA1 (p := ⟨N, 1, none⟩) rfl (.slice B3 m3 cb3)).far (r := [.slice B3 m3 cb3]) hB1 (p := ⟨N + 1, 0, none⟩) rfl (.bool false)).far (r := [.slice B3 m3 cb3]) hB2 (p := ⟨N + 1, 1, none⟩) rfl (.slice A6 n6 c6))
      have HM2 := Lib.hid ((((hu50.far (r := [.slice A3 n3 ca3]) hA0 (p := ⟨N, 0, none⟩) rfl (.bool false)).far (r := [.slice A3 n3 ca3]) hA1 (p := ⟨N, 1, none⟩) rfl (.slice B3 m3 cb3)).far (r := [.slice B3 m3 cb3]) hB1 (p := ⟨N + 1, 0, none⟩) rfl (.bool false)).far (r := [.slice B3 m3 cb3]) hB2 (p := ⟨N + 1, 1, none⟩) rfl (.slice A6 n6 c6))
      have HB := Lib.hid ((((hbw0.setCell (p := ⟨N, 0, none⟩) (Nat.le_refl _) (.bool false)).setCell (p := ⟨N, 1, none⟩) (Nat.le_refl _) (.slice B3 m3 cb3)).setCell (p := ⟨N + 1, 0, none⟩) (show N ≤ N + 1 by omega) (.bool false)).setCell (p := ⟨N + 1, 1, none⟩) (show N ≤ N + 1 by omega) (.slice A6 n6 c6))
      have HF := Lib.hid (And.intro hA3 (And.intro hB3 hR2))
      have K0 := Lib.hid k60
      have K2 : Hid (Blk _ (g5 + 1) 45 #[.bool false, .slice A6 n6 c6]) := ((K0.out).far (p := ⟨N, 0, none⟩) (show g5 + 1 ≠ N by omega) (.bool false)).far (p := ⟨N, 1, none⟩) (show g5 + 1 ≠ N by omega) (.slice B3 m3 cb3)
      have K3 : Hid (Blk _ (g5 + 1) 45 #[.bool false, .slice A6 n6 c6]) := ((K2.out).far (p := ⟨N + 1, 0, none⟩) (show g5 + 1 ≠ N + 1 by omega) (.bool false)).far (p := ⟨N + 1, 1, none⟩) (show g5 + 1 ≠ N + 1 by omega) (.slice A6 n6 c6)
      have cA0 := hA0.cell
      have fA0 := hA0.frozen
      have lA0 := hA0.lt
      have cA1 := hA1.cell
      have fA1 := hA1.frozen
      have cB0 := hB0.cell
      have lB0 := hB0.lt
      have cB1 := hB1.cell
      have fB1 := hB1.frozen
      have lB1 := hB1.lt
      have cB2 := hB2.cell
      have fB2 := hB2.frozen
      have c6' := k60.cell
      have l6' := k60.lt
      clear hA0 hB0 hR0 hA1 hA2 hB1 hB2 hB3 hA3 hR2 k60 hu50 hy60 hbw0
      refine wpAnyH_take (i := 1) (v := ?_) rfl (by kernel_rfl) (by kernel_rfl) (by kernel_rfl) (fun _ _ _ h => h) (Or.inl ⟨by rfl, ?hy⟩) (by assumption) ?_
      case hy => (intro w hSw; have cA := hSw.cell; have lA := hSw.lt; clear hSw; go_simp; try with_reducible rfl)
      simp only [Act.put, List.getElem_toArray, List.getElem_cons_succ, List.getElem_cons_zero, List.setIfInBounds_toArray, List.set_cons_succ, List.set_cons_zero]
      refine wpAnyH_ready (rs := [0]) (by kernel_rfl) (by simp) (AllReadyH.cons rfl (fun K hK => ?_) AllReadyH.nil)
      go_simp
      refine hK.out _ _ K0.out (fun _ => ?_)
      clear hK K
      refine wpAnyH_ready (rs := [2]) (by kernel_rfl) (by simp) (AllReadyH.cons rfl (fun K hK => ?_) AllReadyH.nil)
      go_simp
      refine hK.out _ _ K2.out (fun _ => ?_)
      clear hK K
      clear cA0 fA0 lA0 cA1 fA1 cB0 lB0
      refine wpAnyH_ready (rs := [3]) (by kernel_rfl) (by simp) (AllReadyH.cons rfl (fun K hK => ?_) AllReadyH.nil)
      go_simp
      refine hK.out _ _ K3.out (fun _ => ?_)
      clear hK K
      refine wpAnyH_done (by kernel_rfl) ?_ _
      go_wp2_with fail
      go_roundg rr
      case measure => exact hlt
      case rel => exact ⟨gk, B3, m3, cb3, A6, n6, c6, HF.out.1, HF.out.2.1, HF.out.2.2, HM1.out, HM2.out, HG.out, hk4, by omega, HB.out⟩
end Go.Proofs.YtpklcjbdmikbdaaGreat
namespace Go.Proofs.YtpklcjbdmikbdaaGreat
set_option maxRecDepth 100000
open Go.RowKit

set_option maxHeartbeats 4000000 in
theorem over_any (A B : Option Addr) (n m c d : Nat) (w : World) : Calls Tryz.prog 18 #[.agg #[.bool false, .slice A n c], .agg #[.bool false, .slice B m d]] w fun e w' => e = .returned (.agg #[.bool false, .slice A n c, .bool false, .slice B m d]) ∧ Below w.heap.size w w' := by
  go_enter Tryz.func18, Tryz.ntmps18
  go_wp2_with fail
  have e : ((w.alloc (.cells #[.bool false, .slice A n c] 45)).alloc (.cells #[.bool false, .slice B m d] 45)).heap.size = w.heap.size + 2 := by simp
  have hb2 : Below w.heap.size w (((w.alloc (.cells #[.bool false, .slice A n c] 45)).alloc (.cells #[.bool false, .slice B m d] 45)).alloc (.cells #[.bool false, .slice A n c, .bool false, .slice B m d] 47)) :=
    (((Below.refl _ _).alloc (Nat.le_refl _) _).alloc (by simp) _).alloc (by simp; omega) _
  have hE := Blk.new ((w.alloc (.cells #[.bool false, .slice A n c] 45)).alloc (.cells #[.bool false, .slice B m d] 45)) 47 #[.bool false, .slice A n c, .bool false, .slice B m d]
  rw [e] at hE
  refine bodyPost_cell (w.heap.size + 2) 47 #[.bool false, .slice A n c, .bool false, .slice B m d] (.agg #[.bool false, .slice A n c, .bool false, .slice B m d]) hE ?_ ⟨rfl, hb2⟩
  intro W' hW'
  simp [results, Tryz.results18, go_sem, hW']
set_option maxHeartbeats 8000000 in
theorem small_pos (ga ca a : Nat) (w : World) (hga : ga < w.heap.size) (qa : w.cell? ⟨ga, 0, none⟩ = some (.int .i64 (a : Int))) (a0 : 0 < a) (ha : a < 10000) (hM : MagD w (.slice (some ⟨ga, 0, none⟩) 1 ca) a) : Calls Tryz.prog 47 #[.agg #[.bool false, .slice (some ⟨ga, 0, none⟩) 1 ca]] w fun e w' => e = .returned (.tuple #[.int .i64 (a : Int), .bool true]) ∧ Below w.heap.size w w' := by
  have HS : Hid (∀ V v, Below w.heap.size w V → MagD V v 4611686018427387904 → Calls Tryz.prog 70 #[.slice (some ⟨ga, 0, none⟩) 1 ca, v] V fun e w' => e = .returned (.int .i64 (-1)) ∧ Below V.heap.size V w') := fun V v h hv => by
    have := sizes_any (.slice (some ⟨ga, 0, none⟩) 1 ca) v a 4611686018427387904 V (hM.later h) hv (Nat.le_trans (digs_le 1 a (by omega)) (by omega)) (Nat.le_trans (digs_le 5 4611686018427387904 (by omega)) (by omega))
    rw [show cmpN a 4611686018427387904 = -1 by unfold cmpN; rw [if_pos (by omega)]] at this
    exact this
  have HI : Hid (∀ V, Calls Tryz.prog 19 #[.int .i64 4611686018427387904] V (ZR V false 4611686018427387904)) := fun V => int_any 4611686018427387904 V (by omega)
  have hb1 : Below w.heap.size w (w.alloc (.cells #[.bool false, .slice (some ⟨ga, 0, none⟩) 1 ca] 45)) := (Below.refl _ _).alloc (Nat.le_refl _) _
  have k1 := Blk.new w 45 #[.bool false, .slice (some ⟨ga, 0, none⟩) 1 ca]
  clear hM
  go_enter Tryz.func47, Tryz.ntmps47
  go_upto_region 1 with fail
  revert k1 hb1
  generalize w.alloc (.cells #[.bool false, .slice (some ⟨ga, 0, none⟩) 1 ca] 45) = w1
  generalize hNe : w.heap.size = N
  intro hb1 k1
  have HNe := Lib.hid hNe
  have hsz := hb1.size
  rw [hNe] at hsz hga
  clear hNe
  refine held_var (S := fun V => Blk V N 45 #[.bool false, .slice (some ⟨ga, 0, none⟩) 1 ca]) (by kernel_rfl) k1.drew (fun V0 hV0 hS0 => ?_)
  have hb0 : Below w1.heap.size w1 V0 := by rw [hV0]; exact (Below.refl _ _).drew
  clear hV0
  refine wpAnyH_take (i := 0) (v := ?_) rfl (by kernel_rfl) (by kernel_rfl) (by kernel_rfl) (fun _ _ _ h => h) (Or.inl ⟨by rfl, ?hy⟩) (by assumption) ?_
  case hy => (intro w hSw; have cA := hSw.cell; have lA := hSw.lt; clear hSw; go_simp; try with_reducible rfl)
  refine wpAnyH_take (i := 1) (v := ?_) rfl (by kernel_rfl) (by kernel_rfl) (by kernel_rfl) (fun _ _ _ h => h) (Or.inl ⟨by rfl, ?hy⟩) (by assumption) ?_
  case hy => (intro w hSw; have cA := hSw.cell; have lA := hSw.lt; clear hSw; go_simp; try with_reducible rfl)
  simp only [Act.put, List.getElem_toArray, List.getElem_cons_succ, List.getElem_cons_zero, List.setIfInBounds_toArray, List.set_cons_succ, List.set_cons_zero]
  refine wpAnyH_ready (rs := [2]) (by kernel_rfl) (by simp) (AllReadyH.cons rfl (fun K hK => ?_) AllReadyH.nil)
  go_simp
  refine (HI.out V0).mono ?_
  rintro e V1 ⟨v, rfl, hv, hbX⟩
  replace hb0 := hb0.trans (hbX.mono hb0.size)
  refine hK.out _ _ (k1.later hb0) (fun _ => ?_)
  clear hK K hbX
  have HS2 := Lib.hid (HS.out V1 v (by rw [HNe.out]; exact hb1.trans (hb0.mono hsz)) hv)
  obtain ⟨Av, cv, rfl, _, _⟩ := hv
  generalize (digs 4611686018427387904).length = nv at *
  have hfd := fld45 (false && decide (0 < 4611686018427387904)) Av nv cv
  have hfd2 := fld45 false Av nv cv
  refine wpAnyH_take (i := 3) (v := ?_) rfl (by kernel_rfl) (by kernel_rfl) (by kernel_rfl) (fun _ _ _ h => h) (Or.inl ⟨by rfl, ?hy⟩) (by assumption) ?_
  case hy => (intro w hSw; have cA := hSw.cell; have lA := hSw.lt; clear hSw; go_simp; try with_reducible rfl)
  simp only [Act.put, List.getElem_toArray, List.getElem_cons_succ, List.getElem_cons_zero, List.setIfInBounds_toArray, List.set_cons_succ, List.set_cons_zero]
  refine wpAnyH_ready (rs := [4]) (by kernel_rfl) (by simp) (AllReadyH.cons rfl (fun K hK => ?_) AllReadyH.nil)
  go_simp
  refine HS2.out.mono ?_
  rintro e V2 ⟨rfl, hbX⟩
  replace hb0 := hb0.trans (hbX.mono hb0.size)
  refine hK.out _ _ (k1.later hb0) (fun _ => ?_)
  clear hK K hbX HS2 hfd hfd2
  refine wpAnyH_take (i := 5) (v := ?_) rfl (by kernel_rfl) (by kernel_rfl) (by kernel_rfl) (fun _ _ _ h => h) (Or.inl ⟨by rfl, ?hy⟩) (by assumption) ?_
  case hy => (intro w hSw; clear hSw; go_simp; try with_reducible rfl)
  refine wpAnyH_done (by kernel_rfl) ?_ _
  have kz := k1.later hb0
  have hbz := hb1.trans (hb0.mono hsz)
  clear k1 hb1 hb0 HS HI
  have cA := kz.cell
  have lA := kz.lt
  go_wp2_with fail
  have q1 := (show Below w.heap.size w V2 by rw [HNe.out]; exact hbz).cell (p := ⟨ga, 0, none⟩) (by rw [HNe.out]; exact hga)
  rw [qa] at q1
  have hg2 : ga < V2.heap.size := by have := hbz.size; rw [HNe.out] at this; omega
  go_loopw [4, 5] (fun v i wr => ((v = .int .i64 0 ∧ i = .int .i64 0) ∨ (v = .int .i64 (a : Int) ∧ i = .int .i64 (-1))) ∧ wr = V2) (fun _ i _ => (intOf i + 1).toNat)
  case atStart => exact ⟨.inl ⟨rfl, by go_num⟩, rfl⟩
  case round =>
    obtain ⟨hcase, rfl⟩ := hrel
    rcases hcase with ⟨rfl, rfl⟩ | ⟨rfl, rfl⟩
    · go_wp2_with fail
      go_roundw
      case rel => exact ⟨.inr ⟨by first | rfl | go_num, by first | rfl | go_num⟩, (by first | rfl | trivial)⟩
      case measure => simp [intOf]
    · go_wp2_with fail
      go_ret2
      exact ⟨rfl, by rw [HNe.out]; exact hbz⟩
set_option maxHeartbeats 8000000 in
theorem small_zero (A : Option Addr) (ca a : Nat) (ha0 : a = 0) (w : World) (hM : MagD w (.slice A 0 ca) a) : Calls Tryz.prog 47 #[.agg #[.bool false, .slice A 0 ca]] w fun e w' => e = .returned (.tuple #[.int .i64 (a : Int), .bool true]) ∧ Below w.heap.size w w' := by
  have ha : a < 10000 := by omega
  have HS : Hid (∀ V v, Below w.heap.size w V → MagD V v 4611686018427387904 → Calls Tryz.prog 70 #[.slice A 0 ca, v] V fun e w' => e = .returned (.int .i64 (-1)) ∧ Below V.heap.size V w') := fun V v h hv => by
    have := sizes_any (.slice A 0 ca) v a 4611686018427387904 V (hM.later h) hv (Nat.le_trans (digs_le 1 a (by omega)) (by omega)) (Nat.le_trans (digs_le 5 4611686018427387904 (by omega)) (by omega))
    rw [show cmpN a 4611686018427387904 = -1 by unfold cmpN; rw [if_pos (by omega)]] at this
    exact this
  have HI : Hid (∀ V, Calls Tryz.prog 19 #[.int .i64 4611686018427387904] V (ZR V false 4611686018427387904)) := fun V => int_any 4611686018427387904 V (by omega)
  have hb1 : Below w.heap.size w (w.alloc (.cells #[.bool false, .slice A 0 ca] 45)) := (Below.refl _ _).alloc (Nat.le_refl _) _
  have k1 := Blk.new w 45 #[.bool false, .slice A 0 ca]
  clear hM
  go_enter Tryz.func47, Tryz.ntmps47
  go_upto_region 1 with fail
  revert k1 hb1
  generalize w.alloc (.cells #[.bool false, .slice A 0 ca] 45) = w1
  generalize hNe : w.heap.size = N
  intro hb1 k1
  have HNe := Lib.hid hNe
  have hsz := hb1.size
  rw [hNe] at hsz
  clear hNe
  refine held_var (S := fun V => Blk V N 45 #[.bool false, .slice A 0 ca]) (by kernel_rfl) k1.drew (fun V0 hV0 hS0 => ?_)
  have hb0 : Below w1.heap.size w1 V0 := by rw [hV0]; exact (Below.refl _ _).drew
  clear hV0
  refine wpAnyH_take (i := 0) (v := ?_) rfl (by kernel_rfl) (by kernel_rfl) (by kernel_rfl) (fun _ _ _ h => h) (Or.inl ⟨by rfl, ?hy⟩) (by assumption) ?_
  case hy => (intro w hSw; have cA := hSw.cell; have lA := hSw.lt; clear hSw; go_simp; try with_reducible rfl)
  refine wpAnyH_take (i := 1) (v := ?_) rfl (by kernel_rfl) (by kernel_rfl) (by kernel_rfl) (fun _ _ _ h => h) (Or.inl ⟨by rfl, ?hy⟩) (by assumption) ?_
  case hy => (intro w hSw; have cA := hSw.cell; have lA := hSw.lt; clear hSw; go_simp; try with_reducible rfl)
  simp only [Act.put, List.getElem_toArray, List.getElem_cons_succ, List.getElem_cons_zero, List.setIfInBounds_toArray, List.set_cons_succ, List.set_cons_zero]
  refine wpAnyH_ready (rs := [2]) (by kernel_rfl) (by simp) (AllReadyH.cons rfl (fun K hK => ?_) AllReadyH.nil)
  go_simp
  refine (HI.out V0).mono ?_
  rintro e V1 ⟨v, rfl, hv, hbX⟩
  replace hb0 := hb0.trans (hbX.mono hb0.size)
  refine hK.out _ _ (k1.later hb0) (fun _ => ?_)
  clear hK K hbX
  have HS2 := Lib.hid (HS.out V1 v (by rw [HNe.out]; exact hb1.trans (hb0.mono hsz)) hv)
  obtain ⟨Av, cv, rfl, _, _⟩ := hv
  generalize (digs 4611686018427387904).length = nv at *
  have hfd := fld45 (false && decide (0 < 4611686018427387904)) Av nv cv
  have hfd2 := fld45 false Av nv cv
  refine wpAnyH_take (i := 3) (v := ?_) rfl (by kernel_rfl) (by kernel_rfl) (by kernel_rfl) (fun _ _ _ h => h) (Or.inl ⟨by rfl, ?hy⟩) (by assumption) ?_
  case hy => (intro w hSw; have cA := hSw.cell; have lA := hSw.lt; clear hSw; go_simp; try with_reducible rfl)
  simp only [Act.put, List.getElem_toArray, List.getElem_cons_succ, List.getElem_cons_zero, List.setIfInBounds_toArray, List.set_cons_succ, List.set_cons_zero]
  refine wpAnyH_ready (rs := [4]) (by kernel_rfl) (by simp) (AllReadyH.cons rfl (fun K hK => ?_) AllReadyH.nil)
  go_simp
  refine HS2.out.mono ?_
  rintro e V2 ⟨rfl, hbX⟩
  replace hb0 := hb0.trans (hbX.mono hb0.size)
  refine hK.out _ _ (k1.later hb0) (fun _ => ?_)
  clear hK K hbX HS2 hfd hfd2
  refine wpAnyH_take (i := 5) (v := ?_) rfl (by kernel_rfl) (by kernel_rfl) (by kernel_rfl) (fun _ _ _ h => h) (Or.inl ⟨by rfl, ?hy⟩) (by assumption) ?_
  case hy => (intro w hSw; clear hSw; go_simp; try with_reducible rfl)
  refine wpAnyH_done (by kernel_rfl) ?_ _
  have kz := k1.later hb0
  have hbz := hb1.trans (hb0.mono hsz)
  clear k1 hb1 hb0 HS HI
  have cA := kz.cell
  have lA := kz.lt
  go_wp2_with fail
  go_loopw [4, 5] (fun v i wr => v = .int .i64 0 ∧ i = .int .i64 (-1) ∧ wr = V2) (fun _ i _ => 0)
  case atStart => exact ⟨rfl, by go_num, rfl⟩
  case round =>
    obtain ⟨rfl, rfl, rfl⟩ := hrel
    go_wp2_with fail
    go_ret2
    exact ⟨by rw [ha0]; rfl, by rw [HNe.out]; exact hbz⟩
/-- A number as an integer. -/
theorem smallD_any (v : Value) (a : Nat) (w : World) (hM : MagD w v a) (ha : a < 10000) : Calls Tryz.prog 47 #[.agg #[.bool false, v]] w fun e w' => e = .returned (.tuple #[.int .i64 (a : Int), .bool true]) ∧ Below w.heap.size w w' := by
  rcases Nat.eq_zero_or_pos a with h0 | h0
  · subst h0
    obtain ⟨A, c, rfl⟩ := magD_zero hM
    exact small_zero A c 0 rfl w hM
  · obtain ⟨g, c, rfl, hg, hc⟩ := magD_one hM h0 ha
    exact small_pos g c a w hg hc h0 ha hM
end Go.Proofs.YtpklcjbdmikbdaaGreat
namespace Go.Proofs.YtpklcjbdmikbdaaGreat
set_option maxRecDepth 100000
open Go.RowKit

/-- What is returned: a fraction of two numbers. -/
def RatZ (w : World) (n d : Nat) (e : Ending) (w' : World) : Prop := ∃ va vb, e = .returned (.agg #[.bool false, va, .bool false, vb]) ∧ MagD w' va n ∧ MagD w' vb d ∧ Below w.heap.size w w'
/-- A value of a number is a slice. -/
theorem MagD.form {w : World} {v : Value} {k : Nat} (h : MagD w v k) : ∃ A n c, v = .slice A n c := by
  obtain ⟨A, c, e, _, _⟩ := h
  exact ⟨A, _, c, e⟩
set_option maxHeartbeats 16000000 in
theorem lowest_any (va vb : Value) (a b : Nat) (w : World) (ha : MagD w va a) (hb : MagD w vb b) (ha2 : a < 10000) (hb2 : b < 10000) (b0 : 0 < b) : Calls Tryz.prog 46 #[.agg #[.bool false, va, .bool false, vb]] w (RatZ w (a / a.gcd b) (b / a.gcd b)) := by
  have g0 := Nat.gcd_pos_of_pos_right a b0
  have g1 : a.gcd b < 10000 := Nat.lt_of_le_of_lt (Nat.gcd_le_right _ b0) hb2
  have HG : Hid (∀ V, Below w.heap.size w V → _) := fun V h => gcdZ_any va vb a b V (ha.later h) (hb.later h) ha2 hb2
  generalize a.gcd b = g at *
  have HD1 : Hid (∀ V vg, Below w.heap.size w V → MagD V vg g → _) := fun V vg h hg => divmod_any va vg a g V (ha.later h) hg ha2 g1 g0
  have HD2 : Hid (∀ V vg, Below w.heap.size w V → MagD V vg g → _) := fun V vg h hg => divmod_any vb vg b g V (hb.later h) hg hb2 g1 g0
  obtain ⟨A, n, c, rfl⟩ := ha.form
  obtain ⟨B, m, d, rfl⟩ := hb.form
  generalize a / g = q1 at *
  generalize b / g = q2 at *
  generalize a % g = r1 at *
  generalize b % g = r2 at *
  have e1 : (w.alloc (.cells #[.bool false, .slice A n c, .bool false, .slice B m d] 47)).heap.size = w.heap.size + 1 := by simp
  have kA := (Blk.new w 47 #[.bool false, .slice A n c, .bool false, .slice B m d]).alloc (.cells #[.bool false, .slice none 0 0, .bool false, .slice none 0 0] 47)
  have kR := Blk.new (w.alloc (.cells #[.bool false, .slice A n c, .bool false, .slice B m d] 47)) 47 #[.bool false, .slice none 0 0, .bool false, .slice none 0 0]
  rw [e1] at kR
  have hb1 : Below w.heap.size w ((w.alloc (.cells #[.bool false, .slice A n c, .bool false, .slice B m d] 47)).alloc (.cells #[.bool false, .slice none 0 0, .bool false, .slice none 0 0] 47)) := ((Below.refl _ _).alloc (Nat.le_refl _) _).alloc (by simp) _
  clear e1 ha hb
  go_enter Tryz.func46, Tryz.ntmps46
  go_upto_region 1 with fail
  have HALL := And.intro kA (And.intro kR hb1)
  clear kA kR hb1
  revert HALL
  generalize (w.alloc (.cells #[.bool false, .slice A n c, .bool false, .slice B m d] 47)).alloc (.cells #[.bool false, .slice none 0 0, .bool false, .slice none 0 0] 47) = w1
  generalize hNe : w.heap.size = N
  intro HALL
  obtain ⟨kA, kR, hb1⟩ := HALL
  have HNe := Lib.hid hNe
  clear hNe
  have cA := kA.cell
  have lA := kA.lt
  go_wp2_with fail
  refine (HG.out _ (by rw [HNe.out]; exact hb1)).mono ?_
  rintro e w2 ⟨vg, rfl, hg, hb2⟩
  obtain ⟨Ag, ng, cg, rfl⟩ := hg.form
  have hsz := hb1.size
  rw [HNe.out] at hsz
  have hba : Below w2.heap.size w2 (w2.alloc (.cells #[.bool false, .slice Ag ng cg] 45)) := (Below.refl _ _).alloc (Nat.le_refl _) _
  have kG := Blk.new w2 45 #[.bool false, .slice Ag ng cg]
  have hb3 := hb2.trans (hba.mono hb2.size)
  have HALL := And.intro (kA.later hb3) (And.intro (kR.later hb3) (And.intro (hb1.trans (hb3.mono hsz)) (And.intro kG (hg.later hba))))
  clear kA kR hb1 kG hg hb2 hba hb3 cA lA HG hsz
  go_upto_region 2 with fail
  revert HALL
  generalize w2.alloc (.cells #[.bool false, .slice Ag ng cg] 45) = w3
  generalize w2.heap.size = gG
  intro HALL
  obtain ⟨kA, kR, hb1, kG, hg⟩ := HALL
  have cA := kA.cell
  have lA := kA.lt
  have cG := kG.cell
  have lG := kG.lt
  have HDX := Lib.hid (HD1.out w3 (.slice Ag ng cg) (by rw [HNe.out]; exact hb1) hg)
  clear HD1
  go_wp2_with fail
  refine HDX.out.mono ?_
  rintro e w3a ⟨v4, v5, rfl, h4, h5, hbX⟩
  obtain ⟨A4, n4, c4, rfl⟩ := h4.form
  obtain ⟨A5, n5, c5, rfl⟩ := h5.form
  have hsz := hb1.size
  rw [HNe.out] at hsz
  have hba : Below w3a.heap.size w3a ((w3a.alloc (.cells #[.bool false, .slice A4 n4 c4] 45)).alloc (.cells #[.bool false, .slice A5 n5 c5] 45)) := ((Below.refl _ _).alloc (Nat.le_refl _) _).alloc (by simp) _
  have k4x := (Blk.new w3a 45 #[.bool false, .slice A4 n4 c4]).alloc (.cells #[.bool false, .slice A5 n5 c5] 45)
  have hb5 := hbX.trans (hba.mono hbX.size)
  have HALL := And.intro (kA.later hb5) (And.intro (kR.later hb5) (And.intro (kG.later hb5) (And.intro (hb1.trans (hb5.mono hsz)) (And.intro (hg.later hb5) (And.intro (k4x) ((h4.later hba)))))))
  clear kA kR kG hb1 hg k4x h4 h5 hbX hba hb5 hsz HDX cA lA cG lG
  go_upto_region 3 with fail
  revert HALL
  generalize (w3a.alloc (.cells #[.bool false, .slice A4 n4 c4] 45)).alloc (.cells #[.bool false, .slice A5 n5 c5] 45) = w5
  generalize w3a.heap.size = g4
  intro HALL
  obtain ⟨kA, kR, kG, hb1, hg, k4, h4⟩ := HALL
  have cA := kA.cell
  have lA := kA.lt
  have cG := kG.cell
  have lG := kG.lt
  have HDX := Lib.hid (HD2.out w5 (.slice Ag ng cg) (by rw [HNe.out]; exact hb1) hg)
  clear HD2
  go_wp2_with fail
  refine HDX.out.mono ?_
  rintro e w5a ⟨v6, v7, rfl, h6, h7, hbX⟩
  obtain ⟨A6, n6, c6, rfl⟩ := h6.form
  obtain ⟨A7, n7, c7, rfl⟩ := h7.form
  have hsz := hb1.size
  rw [HNe.out] at hsz
  have hba : Below w5a.heap.size w5a ((w5a.alloc (.cells #[.bool false, .slice A6 n6 c6] 45)).alloc (.cells #[.bool false, .slice A7 n7 c7] 45)) := ((Below.refl _ _).alloc (Nat.le_refl _) _).alloc (by simp) _
  have k6x := (Blk.new w5a 45 #[.bool false, .slice A6 n6 c6]).alloc (.cells #[.bool false, .slice A7 n7 c7] 45)
  have hb5 := hbX.trans (hba.mono hbX.size)
  have HALL := And.intro (kA.later hb5) (And.intro (kR.later hb5) (And.intro (kG.later hb5) (And.intro (k4.later hb5) (And.intro (hb1.trans (hb5.mono hsz)) (And.intro (hg.later hb5) (And.intro (h4.later hb5) (And.intro (k6x) ((h6.later hba)))))))))
  clear kA kR kG k4 hb1 hg h4 k6x h6 h7 hbX hba hb5 hsz HDX cA lA cG lG
  go_upto_region 4 with fail
  revert HALL
  generalize (w5a.alloc (.cells #[.bool false, .slice A6 n6 c6] 45)).alloc (.cells #[.bool false, .slice A7 n7 c7] 45) = w7
  generalize w5a.heap.size = g6
  intro HALL
  obtain ⟨kA, kR, kG, k4, hb1, hg, h4, k6, h6⟩ := HALL
  have hR0 : Blk w7 (N + 1) 47 #[.bool false, .slice none 0 0, .bool false, .slice none 0 0] := kR
  have hR1 : Blk _ (N + 1) 47 #[.bool false, .slice none 0 0, .bool false, .slice none 0 0] := hR0.set_ 0 (.bool false)
  have hR2 : Blk _ (N + 1) 47 #[.bool false, .slice A4 n4 c4, .bool false, .slice none 0 0] := hR1.set_ 1 (.slice A4 n4 c4)
  have hR3 : Blk _ (N + 1) 47 #[.bool false, .slice A4 n4 c4, .bool false, .slice none 0 0] := hR2.set_ 2 (.bool false)
  have hR4 : Blk _ (N + 1) 47 #[.bool false, .slice A4 n4 c4, .bool false, .slice A6 n6 c6] := hR3.set_ 3 (.slice A6 n6 c6)
  have HM1 := Lib.hid (((((h4).far (r := [.slice none 0 0, .bool false, .slice none 0 0]) kR (p := ⟨N + 1, 0, none⟩) rfl (.bool false)).far (r := [.slice none 0 0, .bool false, .slice none 0 0]) hR1 (p := ⟨N + 1, 1, none⟩) rfl (.slice A4 n4 c4)).far (r := [.slice A4 n4 c4, .bool false, .slice none 0 0]) hR2 (p := ⟨N + 1, 2, none⟩) rfl (.bool false)).far (r := [.slice A4 n4 c4, .bool false, .slice none 0 0]) hR3 (p := ⟨N + 1, 3, none⟩) rfl (.slice A6 n6 c6))
  have HM2 := Lib.hid (((((h6).far (r := [.slice none 0 0, .bool false, .slice none 0 0]) kR (p := ⟨N + 1, 0, none⟩) rfl (.bool false)).far (r := [.slice none 0 0, .bool false, .slice none 0 0]) hR1 (p := ⟨N + 1, 1, none⟩) rfl (.slice A4 n4 c4)).far (r := [.slice A4 n4 c4, .bool false, .slice none 0 0]) hR2 (p := ⟨N + 1, 2, none⟩) rfl (.bool false)).far (r := [.slice A4 n4 c4, .bool false, .slice none 0 0]) hR3 (p := ⟨N + 1, 3, none⟩) rfl (.slice A6 n6 c6))
  have HB := Lib.hid (((((hb1).setCell (p := ⟨N + 1, 0, none⟩) (show N ≤ N + 1 by omega) (.bool false)).setCell (p := ⟨N + 1, 1, none⟩) (show N ≤ N + 1 by omega) (.slice A4 n4 c4)).setCell (p := ⟨N + 1, 2, none⟩) (show N ≤ N + 1 by omega) (.bool false)).setCell (p := ⟨N + 1, 3, none⟩) (show N ≤ N + 1 by omega) (.slice A6 n6 c6))
  have HR4 := Lib.hid hR4
  have c4' := k4.cell
  have l4' := k4.lt
  have c6' := k6.cell
  have l6' := k6.lt
  have cR := kR.cell
  have fR := kR.frozen
  have lR := kR.lt
  clear hR0 hR1 hR2 hR3 hR4 kR kA h4 h6 hb1 k4 k6 kG hg
  go_wp2_with fail
  refine bodyPost_cell (N + 1) 47 #[.bool false, .slice A4 n4 c4, .bool false, .slice A6 n6 c6] (.agg #[.bool false, .slice A4 n4 c4, .bool false, .slice A6 n6 c6]) HR4.out ?_ ⟨_, _, rfl, HM1.out, HM2.out, by rw [HNe.out]; exact HB.out⟩
  intro W' hW'
  simp [results, Tryz.results46, go_sem, hW']
end Go.Proofs.YtpklcjbdmikbdaaGreat
namespace Go.Proofs.YtpklcjbdmikbdaaGreat
set_option maxRecDepth 100000
open Go.RowKit

/-- What a fraction in lowest terms is. -/
def FracZ (w : World) (p q : Nat) (e : Ending) (w' : World) : Prop := e = .returned (.tuple #[.agg #[.int .i64 (p : Int), .int .i64 (q : Int)], .int .i64 0]) ∧ Below w.heap.size w w'
set_option maxHeartbeats 16000000 in
theorem fracZ_any (va vb : Value) (a b : Nat) (w : World) (ha : MagD w va a) (hb : MagD w vb b) (ha2 : a < 10000) (hb2 : b < 10000) (b0 : 0 < b) : Calls Tryz.prog 28 #[.agg #[.bool false, va, .bool false, vb]] w (FracZ w (a / a.gcd b) (b / a.gcd b)) := by
  have HL : Hid (∀ V, Below w.heap.size w V → _) := fun V h => lowest_any va vb a b V (ha.later h) (hb.later h) ha2 hb2 b0
  have hp : a / a.gcd b < 10000 := Nat.lt_of_le_of_lt (Nat.div_le_self _ _) ha2
  have hq : b / a.gcd b < 10000 := Nat.lt_of_le_of_lt (Nat.div_le_self _ _) hb2
  generalize a / a.gcd b = p at *
  generalize b / a.gcd b = q at *
  obtain ⟨A, n, c, rfl⟩ := ha.form
  obtain ⟨B, m, d, rfl⟩ := hb.form
  have e1 : (w.alloc (.cells #[.bool false, .slice A n c, .bool false, .slice B m d] 47)).heap.size = w.heap.size + 1 := by simp
  have kA := (Blk.new w 47 #[.bool false, .slice A n c, .bool false, .slice B m d]).alloc (.cells #[.int .i64 0, .int .i64 0] 30)
  have kR := Blk.new (w.alloc (.cells #[.bool false, .slice A n c, .bool false, .slice B m d] 47)) 30 #[.int .i64 0, .int .i64 0]
  rw [e1] at kR
  have hb1 : Below w.heap.size w ((w.alloc (.cells #[.bool false, .slice A n c, .bool false, .slice B m d] 47)).alloc (.cells #[.int .i64 0, .int .i64 0] 30)) := ((Below.refl _ _).alloc (Nat.le_refl _) _).alloc (by simp) _
  clear e1 ha hb
  go_enter Tryz.func28, Tryz.ntmps28
  go_upto_region 1 with fail
  have HALL := And.intro kA (And.intro kR hb1)
  clear kA kR hb1
  revert HALL
  generalize (w.alloc (.cells #[.bool false, .slice A n c, .bool false, .slice B m d] 47)).alloc (.cells #[.int .i64 0, .int .i64 0] 30) = w1
  generalize hNe : w.heap.size = N
  intro HALL
  obtain ⟨kA, kR, hb1⟩ := HALL
  have HNe := Lib.hid hNe
  clear hNe
  have cA := kA.cell
  have lA := kA.lt
  go_wp2_with fail
  refine (HL.out _ (by rw [HNe.out]; exact hb1)).mono ?_
  rintro e w2 ⟨vp, vq, rfl, h1, h2, hb2⟩
  obtain ⟨X0, x1, x2, rfl⟩ := h1.form
  obtain ⟨Y0, y1, y2, rfl⟩ := h2.form
  have hsz := hb1.size
  rw [HNe.out] at hsz
  have kA2 : Blk w2 N 47 #[.bool false, .slice A n c, .bool false, .slice B m d] := kA.later hb2
  have kA3 : Blk _ N 47 #[.bool false, .slice A n c, .bool false, .slice B m d] := kA2.set_ 0 (.bool false)
  have kA4 : Blk _ N 47 #[.bool false, .slice X0 x1 x2, .bool false, .slice B m d] := kA3.set_ 1 (.slice X0 x1 x2)
  have kA5 : Blk _ N 47 #[.bool false, .slice X0 x1 x2, .bool false, .slice B m d] := kA4.set_ 2 (.bool false)
  have kA6 : Blk _ N 47 #[.bool false, .slice X0 x1 x2, .bool false, .slice Y0 y1 y2] := kA5.set_ 3 (.slice Y0 y1 y2)
  have m1 := ((((h1).far (r := [.slice A n c, .bool false, .slice B m d]) kA2 (p := ⟨N, 0, none⟩) rfl (.bool false)).far (r := [.slice A n c, .bool false, .slice B m d]) kA3 (p := ⟨N, 1, none⟩) rfl (.slice X0 x1 x2)).far (r := [.slice X0 x1 x2, .bool false, .slice B m d]) kA4 (p := ⟨N, 2, none⟩) rfl (.bool false)).far (r := [.slice X0 x1 x2, .bool false, .slice B m d]) kA5 (p := ⟨N, 3, none⟩) rfl (.slice Y0 y1 y2)
  have m2 := ((((h2).far (r := [.slice A n c, .bool false, .slice B m d]) kA2 (p := ⟨N, 0, none⟩) rfl (.bool false)).far (r := [.slice A n c, .bool false, .slice B m d]) kA3 (p := ⟨N, 1, none⟩) rfl (.slice X0 x1 x2)).far (r := [.slice X0 x1 x2, .bool false, .slice B m d]) kA4 (p := ⟨N, 2, none⟩) rfl (.bool false)).far (r := [.slice X0 x1 x2, .bool false, .slice B m d]) kA5 (p := ⟨N, 3, none⟩) rfl (.slice Y0 y1 y2)
  have kR6 := ((((kR.later hb2).far (p := ⟨N, 0, none⟩) (show N + 1 ≠ N by omega) (.bool false)).far (p := ⟨N, 1, none⟩) (show N + 1 ≠ N by omega) (.slice X0 x1 x2)).far (p := ⟨N, 2, none⟩) (show N + 1 ≠ N by omega) (.bool false)).far (p := ⟨N, 3, none⟩) (show N + 1 ≠ N by omega) (.slice Y0 y1 y2)
  have hb6 := (((((hb1.trans (hb2.mono hsz))).setCell (p := ⟨N, 0, none⟩) (Nat.le_refl _) (.bool false)).setCell (p := ⟨N, 1, none⟩) (Nat.le_refl _) (.slice X0 x1 x2)).setCell (p := ⟨N, 2, none⟩) (Nat.le_refl _) (.bool false)).setCell (p := ⟨N, 3, none⟩) (Nat.le_refl _) (.slice Y0 y1 y2)
  have HALL := And.intro kA6 (And.intro m1 (And.intro m2 (And.intro kR6 hb6)))
  have cA2 := kA2.cell
  have fA2 := kA2.frozen
  have lA2 := kA2.lt
  clear kA kR hb1 h1 h2 hb2 hsz kA3 kA4 kA5 kA6 m1 m2 kR6 hb6 cA lA HL kA2
  go_upto_region 2 with fail
  clear cA2 fA2 lA2
  revert HALL
  generalize (((w2.setCell ⟨N, 0, none⟩ (.bool false)).setCell ⟨N, 1, none⟩ (.slice X0 x1 x2)).setCell ⟨N, 2, none⟩ (.bool false)).setCell ⟨N, 3, none⟩ (.slice Y0 y1 y2) = w3
  intro HALL
  obtain ⟨kA, h1, h2, kR, hb1⟩ := HALL
  have cA := kA.cell
  have lA := kA.lt
  have HS1 := Lib.hid (smallD_any (.slice X0 x1 x2) p w3 h1 hp)
  go_wp2_with fail
  refine HS1.out.mono ?_
  rintro e w4 ⟨rfl, hb2⟩
  have hsz := hb1.size
  rw [HNe.out] at hsz
  replace kA := kA.later hb2
  replace kR := kR.later hb2
  replace hb1 := hb1.trans (hb2.mono hsz)
  have HS2 := Lib.hid (smallD_any (.slice Y0 y1 y2) q w4 (h2.later hb2) hq)
  clear HS1 cA lA h1 h2 hb2 hsz
  have cA := kA.cell
  have lA := kA.lt
  go_wp2_with fail
  refine HS2.out.mono ?_
  rintro e w5 ⟨rfl, hb2⟩
  have hsz := hb1.size
  rw [HNe.out] at hsz
  replace kR := kR.later hb2
  replace hb1 := hb1.trans (hb2.mono hsz)
  have cR := kR.cell
  have fR := kR.frozen
  have lR := kR.lt
  have HR := Lib.hid ((kR.set_ 0 (.int .i64 (p : Int))).set_ 1 (.int .i64 (q : Int)))
  have HB := Lib.hid ((hb1.setCell (p := ⟨N + 1, 0, none⟩) (show N ≤ N + 1 by omega) (.int .i64 (p : Int))).setCell (p := ⟨N + 1, 1, none⟩) (show N ≤ N + 1 by omega) (.int .i64 (q : Int)))
  clear HS2 cA lA hb2 hsz kA kR hb1
  go_wp2_with fail
  refine bodyPost_cell (N + 1) 30 #[.int .i64 (p : Int), .int .i64 (q : Int)] (.tuple #[.agg #[.int .i64 (p : Int), .int .i64 (q : Int)], .int .i64 0]) HR.out ?_ ⟨rfl, by rw [HNe.out]; exact HB.out⟩
  intro W' hW'
  simp [results, Tryz.results28, go_sem, hW']
set_option maxHeartbeats 16000000 in
theorem makeZ_any (a b : Nat) (w : World) (ha2 : a < 10000) (hb2 : b < 10000) (b0 : 0 < b) : Calls Tryz.prog 12 #[.int .i64 (a : Int), .int .i64 (b : Int)] w (FracZ w (a / a.gcd b) (b / a.gcd b)) := by
  have hd0 : ((b : Int) == 0) = false := by simp; omega
  have hd0' : ¬ b = 0 := by omega
  have HI1 : Hid (∀ V, Calls Tryz.prog 19 #[.int .i64 (a : Int)] V (ZR V false a)) := fun V => int_any a V (by omega)
  have HI2 : Hid (∀ V, Calls Tryz.prog 19 #[.int .i64 (b : Int)] V (ZR V false b)) := fun V => int_any b V (by omega)
  have HF : Hid (∀ V va vb, MagD V va a → MagD V vb b → _) := fun V va vb h1 h2 => fracZ_any va vb a b V h1 h2 ha2 hb2 b0
  generalize a / a.gcd b = p at *
  generalize b / a.gcd b = q at *
  have kR := Blk.new w 30 #[.int .i64 0, .int .i64 0]
  have hb1 : Below w.heap.size w (w.alloc (.cells #[.int .i64 0, .int .i64 0] 30)) := (Below.refl _ _).alloc (Nat.le_refl _) _
  go_enter Tryz.func12, Tryz.ntmps12
  go_upto_region 1 with fail
  have HALL := And.intro kR hb1
  clear kR hb1
  revert HALL
  generalize w.alloc (.cells #[.int .i64 0, .int .i64 0] 30) = w1
  generalize hNe : w.heap.size = N
  intro HALL
  obtain ⟨kR, hb1⟩ := HALL
  have HNe := Lib.hid hNe
  have hsz := hb1.size
  rw [hNe] at hsz
  clear hNe
  go_wp2_with fail
  refine (HI1.out _).mono ?_
  rintro e w2 ⟨va, rfl, h1, hbX⟩
  have hb0 := hbX
  obtain ⟨A, n, c, rfl⟩ := h1.form
  clear HI1 hbX
  go_wp2_with fail
  refine (HI2.out _).mono ?_
  rintro e w3 ⟨vb, rfl, h2, hbX⟩
  replace hb0 := hb0.trans (hbX.mono hb0.size)
  replace h1 := h1.later hbX
  obtain ⟨B, m, d, rfl⟩ := h2.form
  have HO := Lib.hid (over_any A B n m c d w3)
  clear HI2 hbX
  go_wp2_with fail
  refine HO.out.mono ?_
  rintro e w4 ⟨rfl, hbX⟩
  replace hb0 := hb0.trans (hbX.mono hb0.size)
  have HF2 := Lib.hid (HF.out w4 _ _ (h1.later hbX) (h2.later hbX))
  clear HO hbX h1 h2 HF
  go_wp2_with fail
  refine HF2.out.mono ?_
  rintro e w5 ⟨rfl, hbX⟩
  replace hb0 := hb0.trans (hbX.mono hb0.size)
  replace kR := kR.later hb0
  replace hb1 := hb1.trans (hb0.mono hsz)
  have cR := kR.cell
  have fR := kR.frozen
  have lR := kR.lt
  have HR := Lib.hid ((kR.set_ 0 (.int .i64 (p : Int))).set_ 1 (.int .i64 (q : Int)))
  have HB := Lib.hid ((hb1.setCell (p := ⟨N, 0, none⟩) (Nat.le_refl _) (.int .i64 (p : Int))).setCell (p := ⟨N, 1, none⟩) (Nat.le_refl _) (.int .i64 (q : Int)))
  clear HF2 hbX hb0 kR hb1 hsz
  go_wp2_with fail
  refine bodyPost_cell N 30 #[.int .i64 (p : Int), .int .i64 (q : Int)] (.tuple #[.agg #[.int .i64 (p : Int), .int .i64 (q : Int)], .int .i64 0]) HR.out ?_ ⟨rfl, by rw [HNe.out]; exact HB.out⟩
  intro W' hW'
  simp [results, Tryz.results12, go_sem, hW']
end Go.Proofs.YtpklcjbdmikbdaaGreat
