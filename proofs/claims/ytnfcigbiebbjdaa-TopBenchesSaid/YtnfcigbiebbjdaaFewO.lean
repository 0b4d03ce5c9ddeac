/-
  A copy of the first jobs: the walk; the copy is the call's own.
  Conditions: none on where the slice starts.
-/
import Derived.Test.YtnfcigbiebbjdaaG9
import Derived.Deep.Cut
namespace Go.Proofs.Ytnfcigbiebbjdaa
open Go.RowKit

/-- A row of jobs of the call's own. -/
def FewP (w : World) (M : Nat) (A : Option Addr) (n c : Nat) (js : List Jb) : Prop :=
  ∃ vs : List Value, w.ownsRow M 43 5 (.slice A n c) n (jflat js vs) ∧ Afters w vs (js.map Jb.after)
def FewO (w : World) (js : List Jb) (e : Ending) (w' : World) : Prop := ∃ A c, e = .returned (.slice A js.length c) ∧ FewP w' w.heap.size A js.length c js ∧ Below w.heap.size w w'
set_option maxRecDepth 100000 in
set_option maxHeartbeats 4000000 in
theorem few_own (A : Option Addr) (n c q : Nat) (l : List Jb) (w : World) (rA : JobsA w A n l) (hc : n ≤ c) (hnil : A = none → c = 0) (hq : q ≤ 64) :
    Calls Try.prog 16 #[.slice A n c, .int .i64 q] w (FewO w ((l.take (fewN n q)).map cutJ)) := by
  have hb0 : Below w.heap.size w (w.alloc (.cells #[] 43)) := (Below.refl _ _).alloc (Nat.le_refl _) _
  have hmade : (w.alloc (.cells #[] 43)).ownsRow w.heap.size 43 5 (.slice (some ⟨w.heap.size, 0, none⟩) 0 0) 0 (jflat ((l.take 0).map cutJ) []) := World.ownsRow_made (base := w.heap.size) (e := 43) (size := 5) w #[] 0 (by simp) (by unfold maxLen; omega) (by simp)
  have hK0 : FewK w l 0 (.slice (some ⟨w.heap.size, 0, none⟩) 0 0) (w.alloc (.cells #[] 43)) := ⟨[], hmade, ⟨by simp, fun k l h => by simp at h⟩, hb0⟩
  have HK0 := Lib.hid hK0
  have hll := Lib.hid rA.1
  clear hb0 hmade hK0
  go_enter Try.func16, Try.ntmps16
  by_cases h64 : n ≤ 64
  · have d64 : decide ((n : Int) ≤ 64) = true := by simp; omega
    have d64' : (n : Int) ≤ 64 := by omega
    rcases Nat.lt_trichotomy n q with h | h | h
    · have hKc : n ≤ c := hc
      have hKci : (n : Int) ≤ (c : Int) := by omega
      have hi : (n : Int) < (q : Int) := by omega
      rcases A with _ | a
      · have h0 := hnil rfl
        have hn0 : n = 0 := by omega
        subst h0 hn0
        go_wp2_with fail
        go_loopw [5, 6] (fun v i wr => ∃ k : Nat, k ≤ 0 ∧ i = .int .i64 k ∧ Hid (FewK w l k v wr)) (fun _ i _ => 100 - (intOf i).toNat)
        case atStart => exact ⟨0, Nat.zero_le _, rfl, HK0⟩
        case round =>
          obtain ⟨k, hk, rfl, ⟨vs, hown, haft, hb⟩⟩ := hrel
          by_cases hlt : k < 0
          · exfalso; omega
          · have ek : 0 = k := by omega
            subst ek
            have t1 : decide ((0 : Int) < (0 : Int)) = false := by simp
            have eN : fewN 0 q = 0 := by unfold fewN; rw [if_pos (by omega)]; omega
            obtain ⟨A', c', rfl⟩ := own_slice hown
            have hR : FewP _ _ _ _ _ _ := ⟨vs, hown, haft⟩
            clear hown haft HK0
            go_wp2_with fail
            go_ret
            refine ⟨A', c', ?_, ?_, hb⟩
            · simp only [List.length_map, List.length_take, hll.out, eN]
              (try rw [Nat.min_eq_left (by omega)]); (try rfl)
            · simp only [List.length_map, List.length_take, hll.out, eN]
              rw [Nat.min_eq_left (by omega)]
              exact hR
      · skip
        go_wp2_with fail
        go_loopw [5, 6] (fun v i wr => ∃ k : Nat, k ≤ n ∧ i = .int .i64 k ∧ Hid (FewK w l k v wr)) (fun _ i _ => 100 - (intOf i).toNat)
        case atStart => exact ⟨0, Nat.zero_le _, rfl, HK0⟩
        case round =>
          obtain ⟨k, hk, rfl, ⟨vs, hown, haft, hb⟩⟩ := hrel
          by_cases hlt : k < n
          · have t1 : decide ((k : Int) < (n : Int)) = true := by simp; omega
            have t2 : decide ((k : Int) ≤ 64) = true := by simp; omega
            have t3 : (k : Int) < (n : Int) := by omega
            have t4 : (k : Int) ≤ 64 := by omega
            obtain ⟨ad, j, e1, hg, hj, h0, h1, h2, h3, B, m, cj, h4, h5, h6, h7⟩ := (rA.later hb).at_ (show k < n by omega)
            cases e1
            obtain ⟨V, cv, rfl⟩ := own_slice hown
            have hbA : Below wr.heap.size wr (wr.alloc (.cells #[.int .i64 j.work, .int .i64 j.rel, .int .i64 j.due, .int .i64 j.wt, .slice B m cj] 43)) := (Below.refl _ _).alloc (Nat.le_refl _) _
            have M := Lib.hid (cut_any B m cj 70 j.after (wr.alloc (.cells #[.int .i64 j.work, .int .i64 j.rel, .int .i64 j.due, .int .i64 j.wt, .slice B m cj] 43)) (h5.later hbA) h6 h7 (by omega))
            have hbA2 := Lib.hid hbA
            clear hbA
            go_wp2_with fail
            refine M.out.mono ?_
            rintro e w2 ⟨vj, rfl, hvj, hb2⟩
            clear M h0 h1 h2 h3 h4 h5
            have g0 : w2.cell? ⟨wr.heap.size, 0, none⟩ = some (.int .i64 j.work) := (hb2.cell (p := ⟨wr.heap.size, 0, none⟩) (by simp)).trans (by simp)
            have g1 : w2.cell? ⟨wr.heap.size, 1, none⟩ = some (.int .i64 j.rel) := (hb2.cell (p := ⟨wr.heap.size, 1, none⟩) (by simp)).trans (by simp)
            have g2 : w2.cell? ⟨wr.heap.size, 2, none⟩ = some (.int .i64 j.due) := (hb2.cell (p := ⟨wr.heap.size, 2, none⟩) (by simp)).trans (by simp)
            have g3 : w2.cell? ⟨wr.heap.size, 3, none⟩ = some (.int .i64 j.wt) := (hb2.cell (p := ⟨wr.heap.size, 3, none⟩) (by simp)).trans (by simp)
            have g4 : w2.cell? ⟨wr.heap.size, 4, none⟩ = some (.slice B m cj) := (hb2.cell (p := ⟨wr.heap.size, 4, none⟩) (by simp)).trans (by simp)
            have f4 : w2.frozen? ⟨wr.heap.size, 4, none⟩ = false := (hb2.frozen (p := ⟨wr.heap.size, 4, none⟩) (by simp)).trans (by simp)
            have hbw : Below wr.heap.size wr (w2.setCell ⟨wr.heap.size, 4, none⟩ vj) := (hbA2.out.trans (hb2.mono (by simp))).setCell (p := ⟨wr.heap.size, 4, none⟩) (Nat.le_refl _) _
            have hvj3 : IsR (w2.setCell ⟨wr.heap.size, 4, none⟩ vj) vj (cutJ j).after := by
              refine World.ownsRow.mono (World.ownsRow.kept hvj (only_setCell (g := wr.heap.size) (World.grownBy.refl _ _) (p := ⟨wr.heap.size, 4, none⟩) (.inl rfl) _) ?_) (Nat.zero_le _)
              cases hx : vj.ownBlock with
              | none => exact .inl rfl
              | some gx =>
                have := (hvj.lt gx hx).1
                simp at this
                exact .inr (by simp; omega)
            obtain ⟨B2, c2, e2⟩ := own_slice hvj3
            have hown3 := own_later hown hbw
            have haft3 := haft.mono (w' := w2.setCell ⟨wr.heap.size, 4, none⟩ vj) (fun v l h => h.later hbw)
            have hb3 := hb.trans (hbw.mono hb.size)
            clear hvj hb2 hbw hown haft hb hbA2 hg
            subst e2
            have k0 : (w2.setCell ⟨wr.heap.size, 4, none⟩ (.slice B2 (cutJ j).after.length c2)).cell? ⟨wr.heap.size, 0, none⟩ = some (.int .i64 j.work) := (World.cell?_setCell_other _ _ _ _ (by simp)).trans g0
            have k1 : (w2.setCell ⟨wr.heap.size, 4, none⟩ (.slice B2 (cutJ j).after.length c2)).cell? ⟨wr.heap.size, 1, none⟩ = some (.int .i64 j.rel) := (World.cell?_setCell_other _ _ _ _ (by simp)).trans g1
            have k2 : (w2.setCell ⟨wr.heap.size, 4, none⟩ (.slice B2 (cutJ j).after.length c2)).cell? ⟨wr.heap.size, 2, none⟩ = some (.int .i64 j.due) := (World.cell?_setCell_other _ _ _ _ (by simp)).trans g2
            have k3 : (w2.setCell ⟨wr.heap.size, 4, none⟩ (.slice B2 (cutJ j).after.length c2)).cell? ⟨wr.heap.size, 3, none⟩ = some (.int .i64 j.wt) := (World.cell?_setCell_other _ _ _ _ (by simp)).trans g3
            have k4 : (w2.setCell ⟨wr.heap.size, 4, none⟩ (.slice B2 (cutJ j).after.length c2)).cell? ⟨wr.heap.size, 4, none⟩ = some (.slice B2 (cutJ j).after.length c2) := World.cell?_setCell_same' _ _ _ (by rw [g4]; rfl)
            clear g0 g1 g2 g3
            go_upto_region 9 with (fail)
            revert hvj3 hown3 haft3 hb3 k0 k1 k2 k3 k4
            generalize (w2.setCell ⟨wr.heap.size, 4, none⟩ (.slice B2 (cutJ j).after.length c2)) = w3
            intro hvj3 hown3 haft3 hb3 k0 k1 k2 k3 k4
            clear g4 f4
            generalize (cutJ j).after.length = nj at *
            have hbN : Below w3.heap.size w3 (w3.alloc (.cells #[.int .i64 j.work, .int .i64 j.rel, .int .i64 j.due, .int .i64 j.wt, .slice B2 nj c2] 43)) := (Below.refl _ _).alloc (Nat.le_refl _) _
            have hownN := own_later hown3 hbN
            have haftN := haft3.mono (w' := w3.alloc (.cells #[.int .i64 j.work, .int .i64 j.rel, .int .i64 j.due, .int .i64 j.wt, .slice B2 nj c2] 43)) (fun v l h => h.later hbN)
            have hvjN := hvj3.later hbN
            have hbN2 := hb3.trans (hbN.mono hb3.size)
            have HF := Lib.hid (fun v' w4 => FewK.step (v' := v') (w4 := w4) hj hownN haftN hvjN hbN2)
            have hownH := Lib.hid hownN
            have hsz : w.heap.size ≤ w3.heap.size := hb3.size
            clear hownN haftN hvjN hbN2 hbN hvj3 hown3 haft3 hb3
            go_wp2_with (at_builtin; refine app_job _ rfl (.tmp 36) (.tmp 38) rfl w.heap.size (.slice V k cv) k _ rfl hownH.out ⟨w3.heap.size, 0, none⟩ 1 (jcells (cutJ j) (.slice B2 nj c2)) rfl rfl (by intro i u hu; simp only [Addr.add_lit, Nat.zero_add]; have hi : i < 5 := (List.getElem?_eq_some_iff.1 hu).1; rcases i with _ | _ | _ | _ | _ | i <;> simp [jcells, cutJ] at hu ⊢ <;> first | omega | exact hu) (by simp [jcells, Value.oneCell']) (by omega) (by simp; omega) ?_)
            intro v' w4 hnew hgr
            have HK := Lib.hid (HF.out v' w4 (by rw [List.map_take]; exact hnew) hgr)
            clear HF hnew hgr hownH
            go_wp2_with fail
            go_roundw
            case rel => exact ⟨k + 1, by omega, by go_num, HK⟩
            case measure => simp [intOf]; omega
          · have ek : n = k := by omega
            subst ek
            have t1 : decide ((n : Int) < (n : Int)) = false := by simp
            have eN : fewN n q = n := by unfold fewN; rw [if_pos (by omega)]; omega
            obtain ⟨A', c', rfl⟩ := own_slice hown
            have hR : FewP _ _ _ _ _ _ := ⟨vs, hown, haft⟩
            clear hown haft HK0
            go_wp2_with fail
            go_ret
            refine ⟨A', c', ?_, ?_, hb⟩
            · simp only [List.length_map, List.length_take, hll.out, eN]
              (try rw [Nat.min_eq_left (by omega)]); (try rfl)
            · simp only [List.length_map, List.length_take, hll.out, eN]
              rw [Nat.min_eq_left (by omega)]
              exact hR
    · subst h
      have hKc : n ≤ c := hc
      have hKci : (n : Int) ≤ (c : Int) := by omega
      rcases A with _ | a
      · have h0 := hnil rfl
        have hn0 : n = 0 := by omega
        subst h0 hn0
        go_wp2_with fail
        go_loopw [5, 6] (fun v i wr => ∃ k : Nat, k ≤ 0 ∧ i = .int .i64 k ∧ Hid (FewK w l k v wr)) (fun _ i _ => 100 - (intOf i).toNat)
        case atStart => exact ⟨0, Nat.zero_le _, rfl, HK0⟩
        case round =>
          obtain ⟨k, hk, rfl, ⟨vs, hown, haft, hb⟩⟩ := hrel
          by_cases hlt : k < 0
          · exfalso; omega
          · have ek : 0 = k := by omega
            subst ek
            have t1 : decide ((0 : Int) < (0 : Int)) = false := by simp
            have eN : fewN 0 0 = 0 := by unfold fewN; rw [if_pos (by omega)]; omega
            obtain ⟨A', c', rfl⟩ := own_slice hown
            have hR : FewP _ _ _ _ _ _ := ⟨vs, hown, haft⟩
            clear hown haft HK0
            go_wp2_with fail
            go_ret
            refine ⟨A', c', ?_, ?_, hb⟩
            · simp only [List.length_map, List.length_take, hll.out, eN]
              (try rw [Nat.min_eq_left (by omega)]); (try rfl)
            · simp only [List.length_map, List.length_take, hll.out, eN]
              rw [Nat.min_eq_left (by omega)]
              exact hR
      · skip
        go_wp2_with fail
        go_loopw [5, 6] (fun v i wr => ∃ k : Nat, k ≤ n ∧ i = .int .i64 k ∧ Hid (FewK w l k v wr)) (fun _ i _ => 100 - (intOf i).toNat)
        case atStart => exact ⟨0, Nat.zero_le _, rfl, HK0⟩
        case round =>
          obtain ⟨k, hk, rfl, ⟨vs, hown, haft, hb⟩⟩ := hrel
          by_cases hlt : k < n
          · have t1 : decide ((k : Int) < (n : Int)) = true := by simp; omega
            have t2 : decide ((k : Int) ≤ 64) = true := by simp; omega
            have t3 : (k : Int) < (n : Int) := by omega
            have t4 : (k : Int) ≤ 64 := by omega
            obtain ⟨ad, j, e1, hg, hj, h0, h1, h2, h3, B, m, cj, h4, h5, h6, h7⟩ := (rA.later hb).at_ (show k < n by omega)
            cases e1
            obtain ⟨V, cv, rfl⟩ := own_slice hown
            have hbA : Below wr.heap.size wr (wr.alloc (.cells #[.int .i64 j.work, .int .i64 j.rel, .int .i64 j.due, .int .i64 j.wt, .slice B m cj] 43)) := (Below.refl _ _).alloc (Nat.le_refl _) _
            have M := Lib.hid (cut_any B m cj 70 j.after (wr.alloc (.cells #[.int .i64 j.work, .int .i64 j.rel, .int .i64 j.due, .int .i64 j.wt, .slice B m cj] 43)) (h5.later hbA) h6 h7 (by omega))
            have hbA2 := Lib.hid hbA
            clear hbA
            go_wp2_with fail
            refine M.out.mono ?_
            rintro e w2 ⟨vj, rfl, hvj, hb2⟩
            clear M h0 h1 h2 h3 h4 h5
            have g0 : w2.cell? ⟨wr.heap.size, 0, none⟩ = some (.int .i64 j.work) := (hb2.cell (p := ⟨wr.heap.size, 0, none⟩) (by simp)).trans (by simp)
            have g1 : w2.cell? ⟨wr.heap.size, 1, none⟩ = some (.int .i64 j.rel) := (hb2.cell (p := ⟨wr.heap.size, 1, none⟩) (by simp)).trans (by simp)
            have g2 : w2.cell? ⟨wr.heap.size, 2, none⟩ = some (.int .i64 j.due) := (hb2.cell (p := ⟨wr.heap.size, 2, none⟩) (by simp)).trans (by simp)
            have g3 : w2.cell? ⟨wr.heap.size, 3, none⟩ = some (.int .i64 j.wt) := (hb2.cell (p := ⟨wr.heap.size, 3, none⟩) (by simp)).trans (by simp)
            have g4 : w2.cell? ⟨wr.heap.size, 4, none⟩ = some (.slice B m cj) := (hb2.cell (p := ⟨wr.heap.size, 4, none⟩) (by simp)).trans (by simp)
            have f4 : w2.frozen? ⟨wr.heap.size, 4, none⟩ = false := (hb2.frozen (p := ⟨wr.heap.size, 4, none⟩) (by simp)).trans (by simp)
            have hbw : Below wr.heap.size wr (w2.setCell ⟨wr.heap.size, 4, none⟩ vj) := (hbA2.out.trans (hb2.mono (by simp))).setCell (p := ⟨wr.heap.size, 4, none⟩) (Nat.le_refl _) _
            have hvj3 : IsR (w2.setCell ⟨wr.heap.size, 4, none⟩ vj) vj (cutJ j).after := by
              refine World.ownsRow.mono (World.ownsRow.kept hvj (only_setCell (g := wr.heap.size) (World.grownBy.refl _ _) (p := ⟨wr.heap.size, 4, none⟩) (.inl rfl) _) ?_) (Nat.zero_le _)
              cases hx : vj.ownBlock with
              | none => exact .inl rfl
              | some gx =>
                have := (hvj.lt gx hx).1
                simp at this
                exact .inr (by simp; omega)
            obtain ⟨B2, c2, e2⟩ := own_slice hvj3
            have hown3 := own_later hown hbw
            have haft3 := haft.mono (w' := w2.setCell ⟨wr.heap.size, 4, none⟩ vj) (fun v l h => h.later hbw)
            have hb3 := hb.trans (hbw.mono hb.size)
            clear hvj hb2 hbw hown haft hb hbA2 hg
            subst e2
            have k0 : (w2.setCell ⟨wr.heap.size, 4, none⟩ (.slice B2 (cutJ j).after.length c2)).cell? ⟨wr.heap.size, 0, none⟩ = some (.int .i64 j.work) := (World.cell?_setCell_other _ _ _ _ (by simp)).trans g0
            have k1 : (w2.setCell ⟨wr.heap.size, 4, none⟩ (.slice B2 (cutJ j).after.length c2)).cell? ⟨wr.heap.size, 1, none⟩ = some (.int .i64 j.rel) := (World.cell?_setCell_other _ _ _ _ (by simp)).trans g1
            have k2 : (w2.setCell ⟨wr.heap.size, 4, none⟩ (.slice B2 (cutJ j).after.length c2)).cell? ⟨wr.heap.size, 2, none⟩ = some (.int .i64 j.due) := (World.cell?_setCell_other _ _ _ _ (by simp)).trans g2
            have k3 : (w2.setCell ⟨wr.heap.size, 4, none⟩ (.slice B2 (cutJ j).after.length c2)).cell? ⟨wr.heap.size, 3, none⟩ = some (.int .i64 j.wt) := (World.cell?_setCell_other _ _ _ _ (by simp)).trans g3
            have k4 : (w2.setCell ⟨wr.heap.size, 4, none⟩ (.slice B2 (cutJ j).after.length c2)).cell? ⟨wr.heap.size, 4, none⟩ = some (.slice B2 (cutJ j).after.length c2) := World.cell?_setCell_same' _ _ _ (by rw [g4]; rfl)
            clear g0 g1 g2 g3
            go_upto_region 9 with (fail)
            revert hvj3 hown3 haft3 hb3 k0 k1 k2 k3 k4
            generalize (w2.setCell ⟨wr.heap.size, 4, none⟩ (.slice B2 (cutJ j).after.length c2)) = w3
            intro hvj3 hown3 haft3 hb3 k0 k1 k2 k3 k4
            clear g4 f4
            generalize (cutJ j).after.length = nj at *
            have hbN : Below w3.heap.size w3 (w3.alloc (.cells #[.int .i64 j.work, .int .i64 j.rel, .int .i64 j.due, .int .i64 j.wt, .slice B2 nj c2] 43)) := (Below.refl _ _).alloc (Nat.le_refl _) _
            have hownN := own_later hown3 hbN
            have haftN := haft3.mono (w' := w3.alloc (.cells #[.int .i64 j.work, .int .i64 j.rel, .int .i64 j.due, .int .i64 j.wt, .slice B2 nj c2] 43)) (fun v l h => h.later hbN)
            have hvjN := hvj3.later hbN
            have hbN2 := hb3.trans (hbN.mono hb3.size)
            have HF := Lib.hid (fun v' w4 => FewK.step (v' := v') (w4 := w4) hj hownN haftN hvjN hbN2)
            have hownH := Lib.hid hownN
            have hsz : w.heap.size ≤ w3.heap.size := hb3.size
            clear hownN haftN hvjN hbN2 hbN hvj3 hown3 haft3 hb3
            go_wp2_with (at_builtin; refine app_job _ rfl (.tmp 36) (.tmp 38) rfl w.heap.size (.slice V k cv) k _ rfl hownH.out ⟨w3.heap.size, 0, none⟩ 1 (jcells (cutJ j) (.slice B2 nj c2)) rfl rfl (by intro i u hu; simp only [Addr.add_lit, Nat.zero_add]; have hi : i < 5 := (List.getElem?_eq_some_iff.1 hu).1; rcases i with _ | _ | _ | _ | _ | i <;> simp [jcells, cutJ] at hu ⊢ <;> first | omega | exact hu) (by simp [jcells, Value.oneCell']) (by omega) (by simp; omega) ?_)
            intro v' w4 hnew hgr
            have HK := Lib.hid (HF.out v' w4 (by rw [List.map_take]; exact hnew) hgr)
            clear HF hnew hgr hownH
            go_wp2_with fail
            go_roundw
            case rel => exact ⟨k + 1, by omega, by go_num, HK⟩
            case measure => simp [intOf]; omega
          · have ek : n = k := by omega
            subst ek
            have t1 : decide ((n : Int) < (n : Int)) = false := by simp
            have eN : fewN n n = n := by unfold fewN; rw [if_pos (by omega)]; omega
            obtain ⟨A', c', rfl⟩ := own_slice hown
            have hR : FewP _ _ _ _ _ _ := ⟨vs, hown, haft⟩
            clear hown haft HK0
            go_wp2_with fail
            go_ret
            refine ⟨A', c', ?_, ?_, hb⟩
            · simp only [List.length_map, List.length_take, hll.out, eN]
              (try rw [Nat.min_eq_left (by omega)]); (try rfl)
            · simp only [List.length_map, List.length_take, hll.out, eN]
              rw [Nat.min_eq_left (by omega)]
              exact hR
    · have hKc : q ≤ c := by omega
      have hKci : (q : Int) ≤ (c : Int) := by omega
      have hi : (q : Int) < (n : Int) := by omega
      rcases A with _ | a
      · have h0 := hnil rfl
        exfalso; omega
      · skip
        go_wp2_with fail
        go_loopw [5, 6] (fun v i wr => ∃ k : Nat, k ≤ q ∧ i = .int .i64 k ∧ Hid (FewK w l k v wr)) (fun _ i _ => 100 - (intOf i).toNat)
        case atStart => exact ⟨0, Nat.zero_le _, rfl, HK0⟩
        case round =>
          obtain ⟨k, hk, rfl, ⟨vs, hown, haft, hb⟩⟩ := hrel
          by_cases hlt : k < q
          · have t1 : decide ((k : Int) < (q : Int)) = true := by simp; omega
            have t2 : decide ((k : Int) ≤ 64) = true := by simp; omega
            have t3 : (k : Int) < (q : Int) := by omega
            have t4 : (k : Int) ≤ 64 := by omega
            obtain ⟨ad, j, e1, hg, hj, h0, h1, h2, h3, B, m, cj, h4, h5, h6, h7⟩ := (rA.later hb).at_ (show k < n by omega)
            cases e1
            obtain ⟨V, cv, rfl⟩ := own_slice hown
            have hbA : Below wr.heap.size wr (wr.alloc (.cells #[.int .i64 j.work, .int .i64 j.rel, .int .i64 j.due, .int .i64 j.wt, .slice B m cj] 43)) := (Below.refl _ _).alloc (Nat.le_refl _) _
            have M := Lib.hid (cut_any B m cj 70 j.after (wr.alloc (.cells #[.int .i64 j.work, .int .i64 j.rel, .int .i64 j.due, .int .i64 j.wt, .slice B m cj] 43)) (h5.later hbA) h6 h7 (by omega))
            have hbA2 := Lib.hid hbA
            clear hbA
            go_wp2_with fail
            refine M.out.mono ?_
            rintro e w2 ⟨vj, rfl, hvj, hb2⟩
            clear M h0 h1 h2 h3 h4 h5
            have g0 : w2.cell? ⟨wr.heap.size, 0, none⟩ = some (.int .i64 j.work) := (hb2.cell (p := ⟨wr.heap.size, 0, none⟩) (by simp)).trans (by simp)
            have g1 : w2.cell? ⟨wr.heap.size, 1, none⟩ = some (.int .i64 j.rel) := (hb2.cell (p := ⟨wr.heap.size, 1, none⟩) (by simp)).trans (by simp)
            have g2 : w2.cell? ⟨wr.heap.size, 2, none⟩ = some (.int .i64 j.due) := (hb2.cell (p := ⟨wr.heap.size, 2, none⟩) (by simp)).trans (by simp)
            have g3 : w2.cell? ⟨wr.heap.size, 3, none⟩ = some (.int .i64 j.wt) := (hb2.cell (p := ⟨wr.heap.size, 3, none⟩) (by simp)).trans (by simp)
            have g4 : w2.cell? ⟨wr.heap.size, 4, none⟩ = some (.slice B m cj) := (hb2.cell (p := ⟨wr.heap.size, 4, none⟩) (by simp)).trans (by simp)
            have f4 : w2.frozen? ⟨wr.heap.size, 4, none⟩ = false := (hb2.frozen (p := ⟨wr.heap.size, 4, none⟩) (by simp)).trans (by simp)
            have hbw : Below wr.heap.size wr (w2.setCell ⟨wr.heap.size, 4, none⟩ vj) := (hbA2.out.trans (hb2.mono (by simp))).setCell (p := ⟨wr.heap.size, 4, none⟩) (Nat.le_refl _) _
            have hvj3 : IsR (w2.setCell ⟨wr.heap.size, 4, none⟩ vj) vj (cutJ j).after := by
              refine World.ownsRow.mono (World.ownsRow.kept hvj (only_setCell (g := wr.heap.size) (World.grownBy.refl _ _) (p := ⟨wr.heap.size, 4, none⟩) (.inl rfl) _) ?_) (Nat.zero_le _)
              cases hx : vj.ownBlock with
              | none => exact .inl rfl
              | some gx =>
                have := (hvj.lt gx hx).1
                simp at this
                exact .inr (by simp; omega)
            obtain ⟨B2, c2, e2⟩ := own_slice hvj3
            have hown3 := own_later hown hbw
            have haft3 := haft.mono (w' := w2.setCell ⟨wr.heap.size, 4, none⟩ vj) (fun v l h => h.later hbw)
            have hb3 := hb.trans (hbw.mono hb.size)
            clear hvj hb2 hbw hown haft hb hbA2 hg
            subst e2
            have k0 : (w2.setCell ⟨wr.heap.size, 4, none⟩ (.slice B2 (cutJ j).after.length c2)).cell? ⟨wr.heap.size, 0, none⟩ = some (.int .i64 j.work) := (World.cell?_setCell_other _ _ _ _ (by simp)).trans g0
            have k1 : (w2.setCell ⟨wr.heap.size, 4, none⟩ (.slice B2 (cutJ j).after.length c2)).cell? ⟨wr.heap.size, 1, none⟩ = some (.int .i64 j.rel) := (World.cell?_setCell_other _ _ _ _ (by simp)).trans g1
            have k2 : (w2.setCell ⟨wr.heap.size, 4, none⟩ (.slice B2 (cutJ j).after.length c2)).cell? ⟨wr.heap.size, 2, none⟩ = some (.int .i64 j.due) := (World.cell?_setCell_other _ _ _ _ (by simp)).trans g2
            have k3 : (w2.setCell ⟨wr.heap.size, 4, none⟩ (.slice B2 (cutJ j).after.length c2)).cell? ⟨wr.heap.size, 3, none⟩ = some (.int .i64 j.wt) := (World.cell?_setCell_other _ _ _ _ (by simp)).trans g3
            have k4 : (w2.setCell ⟨wr.heap.size, 4, none⟩ (.slice B2 (cutJ j).after.length c2)).cell? ⟨wr.heap.size, 4, none⟩ = some (.slice B2 (cutJ j).after.length c2) := World.cell?_setCell_same' _ _ _ (by rw [g4]; rfl)
            clear g0 g1 g2 g3
            go_upto_region 9 with (fail)
            revert hvj3 hown3 haft3 hb3 k0 k1 k2 k3 k4
            generalize (w2.setCell ⟨wr.heap.size, 4, none⟩ (.slice B2 (cutJ j).after.length c2)) = w3
            intro hvj3 hown3 haft3 hb3 k0 k1 k2 k3 k4
            clear g4 f4
            generalize (cutJ j).after.length = nj at *
            have hbN : Below w3.heap.size w3 (w3.alloc (.cells #[.int .i64 j.work, .int .i64 j.rel, .int .i64 j.due, .int .i64 j.wt, .slice B2 nj c2] 43)) := (Below.refl _ _).alloc (Nat.le_refl _) _
            have hownN := own_later hown3 hbN
            have haftN := haft3.mono (w' := w3.alloc (.cells #[.int .i64 j.work, .int .i64 j.rel, .int .i64 j.due, .int .i64 j.wt, .slice B2 nj c2] 43)) (fun v l h => h.later hbN)
            have hvjN := hvj3.later hbN
            have hbN2 := hb3.trans (hbN.mono hb3.size)
            have HF := Lib.hid (fun v' w4 => FewK.step (v' := v') (w4 := w4) hj hownN haftN hvjN hbN2)
            have hownH := Lib.hid hownN
            have hsz : w.heap.size ≤ w3.heap.size := hb3.size
            clear hownN haftN hvjN hbN2 hbN hvj3 hown3 haft3 hb3
            go_wp2_with (at_builtin; refine app_job _ rfl (.tmp 36) (.tmp 38) rfl w.heap.size (.slice V k cv) k _ rfl hownH.out ⟨w3.heap.size, 0, none⟩ 1 (jcells (cutJ j) (.slice B2 nj c2)) rfl rfl (by intro i u hu; simp only [Addr.add_lit, Nat.zero_add]; have hi : i < 5 := (List.getElem?_eq_some_iff.1 hu).1; rcases i with _ | _ | _ | _ | _ | i <;> simp [jcells, cutJ] at hu ⊢ <;> first | omega | exact hu) (by simp [jcells, Value.oneCell']) (by omega) (by simp; omega) ?_)
            intro v' w4 hnew hgr
            have HK := Lib.hid (HF.out v' w4 (by rw [List.map_take]; exact hnew) hgr)
            clear HF hnew hgr hownH
            go_wp2_with fail
            go_roundw
            case rel => exact ⟨k + 1, by omega, by go_num, HK⟩
            case measure => simp [intOf]; omega
          · have ek : q = k := by omega
            subst ek
            have t1 : decide ((q : Int) < (q : Int)) = false := by simp
            have eN : fewN n q = q := by unfold fewN; rw [if_pos (by omega)]; omega
            obtain ⟨A', c', rfl⟩ := own_slice hown
            have hR : FewP _ _ _ _ _ _ := ⟨vs, hown, haft⟩
            clear hown haft HK0
            go_wp2_with fail
            go_ret
            refine ⟨A', c', ?_, ?_, hb⟩
            · simp only [List.length_map, List.length_take, hll.out, eN]
              (try rw [Nat.min_eq_left (by omega)]); (try rfl)
            · simp only [List.length_map, List.length_take, hll.out, eN]
              rw [Nat.min_eq_left (by omega)]
              exact hR
  · have d64 : decide ((n : Int) ≤ 64) = false := by simp; omega
    have d64' : ¬ (n : Int) ≤ 64 := by omega
    go_wp2_with fail
    go_loopw [5, 6] (fun v i wr => ∃ k : Nat, k ≤ 65 ∧ i = .int .i64 k ∧ Hid (FewK w l k v wr)) (fun _ i _ => 100 - (intOf i).toNat)
    case atStart => exact ⟨0, Nat.zero_le _, rfl, HK0⟩
    case round =>
      obtain ⟨k, hk, rfl, ⟨vs, hown, haft, hb⟩⟩ := hrel
      by_cases hlt : k < 65
      · have t1 : decide ((k : Int) < (n : Int)) = true := by simp; omega
        have t2 : decide ((k : Int) ≤ 64) = true := by simp; omega
        have t3 : (k : Int) < (n : Int) := by omega
        have t4 : (k : Int) ≤ 64 := by omega
        obtain ⟨ad, j, e1, hg, hj, h0, h1, h2, h3, B, m, cj, h4, h5, h6, h7⟩ := (rA.later hb).at_ (show k < n by omega)
        cases e1
        obtain ⟨V, cv, rfl⟩ := own_slice hown
        have hbA : Below wr.heap.size wr (wr.alloc (.cells #[.int .i64 j.work, .int .i64 j.rel, .int .i64 j.due, .int .i64 j.wt, .slice B m cj] 43)) := (Below.refl _ _).alloc (Nat.le_refl _) _
        have M := Lib.hid (cut_any B m cj 70 j.after (wr.alloc (.cells #[.int .i64 j.work, .int .i64 j.rel, .int .i64 j.due, .int .i64 j.wt, .slice B m cj] 43)) (h5.later hbA) h6 h7 (by omega))
        have hbA2 := Lib.hid hbA
        clear hbA
        go_wp2_with fail
        refine M.out.mono ?_
        rintro e w2 ⟨vj, rfl, hvj, hb2⟩
        clear M h0 h1 h2 h3 h4 h5
        have g0 : w2.cell? ⟨wr.heap.size, 0, none⟩ = some (.int .i64 j.work) := (hb2.cell (p := ⟨wr.heap.size, 0, none⟩) (by simp)).trans (by simp)
        have g1 : w2.cell? ⟨wr.heap.size, 1, none⟩ = some (.int .i64 j.rel) := (hb2.cell (p := ⟨wr.heap.size, 1, none⟩) (by simp)).trans (by simp)
        have g2 : w2.cell? ⟨wr.heap.size, 2, none⟩ = some (.int .i64 j.due) := (hb2.cell (p := ⟨wr.heap.size, 2, none⟩) (by simp)).trans (by simp)
        have g3 : w2.cell? ⟨wr.heap.size, 3, none⟩ = some (.int .i64 j.wt) := (hb2.cell (p := ⟨wr.heap.size, 3, none⟩) (by simp)).trans (by simp)
        have g4 : w2.cell? ⟨wr.heap.size, 4, none⟩ = some (.slice B m cj) := (hb2.cell (p := ⟨wr.heap.size, 4, none⟩) (by simp)).trans (by simp)
        have f4 : w2.frozen? ⟨wr.heap.size, 4, none⟩ = false := (hb2.frozen (p := ⟨wr.heap.size, 4, none⟩) (by simp)).trans (by simp)
        have hbw : Below wr.heap.size wr (w2.setCell ⟨wr.heap.size, 4, none⟩ vj) := (hbA2.out.trans (hb2.mono (by simp))).setCell (p := ⟨wr.heap.size, 4, none⟩) (Nat.le_refl _) _
        have hvj3 : IsR (w2.setCell ⟨wr.heap.size, 4, none⟩ vj) vj (cutJ j).after := by
          refine World.ownsRow.mono (World.ownsRow.kept hvj (only_setCell (g := wr.heap.size) (World.grownBy.refl _ _) (p := ⟨wr.heap.size, 4, none⟩) (.inl rfl) _) ?_) (Nat.zero_le _)
          cases hx : vj.ownBlock with
          | none => exact .inl rfl
          | some gx =>
            have := (hvj.lt gx hx).1
            simp at this
            exact .inr (by simp; omega)
        obtain ⟨B2, c2, e2⟩ := own_slice hvj3
        have hown3 := own_later hown hbw
        have haft3 := haft.mono (w' := w2.setCell ⟨wr.heap.size, 4, none⟩ vj) (fun v l h => h.later hbw)
        have hb3 := hb.trans (hbw.mono hb.size)
        clear hvj hb2 hbw hown haft hb hbA2 hg
        subst e2
        have k0 : (w2.setCell ⟨wr.heap.size, 4, none⟩ (.slice B2 (cutJ j).after.length c2)).cell? ⟨wr.heap.size, 0, none⟩ = some (.int .i64 j.work) := (World.cell?_setCell_other _ _ _ _ (by simp)).trans g0
        have k1 : (w2.setCell ⟨wr.heap.size, 4, none⟩ (.slice B2 (cutJ j).after.length c2)).cell? ⟨wr.heap.size, 1, none⟩ = some (.int .i64 j.rel) := (World.cell?_setCell_other _ _ _ _ (by simp)).trans g1
        have k2 : (w2.setCell ⟨wr.heap.size, 4, none⟩ (.slice B2 (cutJ j).after.length c2)).cell? ⟨wr.heap.size, 2, none⟩ = some (.int .i64 j.due) := (World.cell?_setCell_other _ _ _ _ (by simp)).trans g2
        have k3 : (w2.setCell ⟨wr.heap.size, 4, none⟩ (.slice B2 (cutJ j).after.length c2)).cell? ⟨wr.heap.size, 3, none⟩ = some (.int .i64 j.wt) := (World.cell?_setCell_other _ _ _ _ (by simp)).trans g3
        have k4 : (w2.setCell ⟨wr.heap.size, 4, none⟩ (.slice B2 (cutJ j).after.length c2)).cell? ⟨wr.heap.size, 4, none⟩ = some (.slice B2 (cutJ j).after.length c2) := World.cell?_setCell_same' _ _ _ (by rw [g4]; rfl)
        clear g0 g1 g2 g3
        go_upto_region 9 with (fail)
        revert hvj3 hown3 haft3 hb3 k0 k1 k2 k3 k4
        generalize (w2.setCell ⟨wr.heap.size, 4, none⟩ (.slice B2 (cutJ j).after.length c2)) = w3
        intro hvj3 hown3 haft3 hb3 k0 k1 k2 k3 k4
        clear g4 f4
        generalize (cutJ j).after.length = nj at *
        have hbN : Below w3.heap.size w3 (w3.alloc (.cells #[.int .i64 j.work, .int .i64 j.rel, .int .i64 j.due, .int .i64 j.wt, .slice B2 nj c2] 43)) := (Below.refl _ _).alloc (Nat.le_refl _) _
        have hownN := own_later hown3 hbN
        have haftN := haft3.mono (w' := w3.alloc (.cells #[.int .i64 j.work, .int .i64 j.rel, .int .i64 j.due, .int .i64 j.wt, .slice B2 nj c2] 43)) (fun v l h => h.later hbN)
        have hvjN := hvj3.later hbN
        have hbN2 := hb3.trans (hbN.mono hb3.size)
        have HF := Lib.hid (fun v' w4 => FewK.step (v' := v') (w4 := w4) hj hownN haftN hvjN hbN2)
        have hownH := Lib.hid hownN
        have hsz : w.heap.size ≤ w3.heap.size := hb3.size
        clear hownN haftN hvjN hbN2 hbN hvj3 hown3 haft3 hb3
        go_wp2_with (at_builtin; refine app_job _ rfl (.tmp 36) (.tmp 38) rfl w.heap.size (.slice V k cv) k _ rfl hownH.out ⟨w3.heap.size, 0, none⟩ 1 (jcells (cutJ j) (.slice B2 nj c2)) rfl rfl (by intro i u hu; simp only [Addr.add_lit, Nat.zero_add]; have hi : i < 5 := (List.getElem?_eq_some_iff.1 hu).1; rcases i with _ | _ | _ | _ | _ | i <;> simp [jcells, cutJ] at hu ⊢ <;> first | omega | exact hu) (by simp [jcells, Value.oneCell']) (by omega) (by simp; omega) ?_)
        intro v' w4 hnew hgr
        have HK := Lib.hid (HF.out v' w4 (by rw [List.map_take]; exact hnew) hgr)
        clear HF hnew hgr hownH
        go_wp2_with fail
        go_roundw
        case rel => exact ⟨k + 1, by omega, by go_num, HK⟩
        case measure => simp [intOf]; omega
      · have ek : 65 = k := by omega
        subst ek
        have t2 : decide (((65 : Nat) : Int) ≤ 64) = false := by decide
        obtain ⟨A', c', rfl⟩ := own_slice hown
        have hR : FewP _ _ _ _ _ _ := ⟨vs, hown, haft⟩
        clear hown haft HK0
        go_wp2_with fail
        all_goals
          go_ret
          refine ⟨A', c', ?_, ?_, hb⟩
          · simp only [List.length_map, List.length_take, hll.out, fewN, if_neg h64]
            (try rw [Nat.min_eq_left (by omega)]); (try rfl)
          · simp only [List.length_map, List.length_take, hll.out, fewN, if_neg h64]
            rw [Nat.min_eq_left (by omega)]
            simpa using hR
end Go.Proofs.Ytnfcigbiebbjdaa
