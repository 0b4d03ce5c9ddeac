/-
  The contract of faced: a valid face made of any one.
  No conditions.
-/
import Derived.Test.YtjlnkghjiaglmaaFaces2
import Derived.Deep.RegionHeld3
namespace Go.Proofs.Ytjlnkghjiaglmaa
open Go.RowKit

theorem forget1 {F G : World → Prop} {W0 : World} (h : F W0) (k : ∀ W, F W → G W) : G W0 := k W0 h

/-- The face that is made of any one. -/
def Fc.made (f : Fc) : Fc := ⟨f.D % Cal.dl (f.M % 12 + 1) (f.L % 4 == 0) + 1, f.M % 12 + 1, f.L % 4, f.W % 7, f.O % 59⟩
theorem Fc.made_ok (f : Fc) : f.made.ok := by
  have b := Cal.dl_bd (f.M % 12 + 1) (f.L % 4 == 0)
  have m := Int.emod_nonneg f.D (b := Cal.dl (f.M % 12 + 1) (f.L % 4 == 0)) (by omega)
  have k := Int.emod_lt_of_pos f.D (b := Cal.dl (f.M % 12 + 1) (f.L % 4 == 0)) (by omega)
  refine ⟨?_, ?_, ?_, ?_, ?_, ?_, ?_, ?_, ?_, ?_⟩
  · show 1 ≤ f.M % 12 + 1; omega
  · show f.M % 12 + 1 ≤ 12; omega
  · show 0 ≤ f.L % 4; omega
  · show f.L % 4 ≤ 3; omega
  · show 1 ≤ f.D % Cal.dl (f.M % 12 + 1) (f.L % 4 == 0) + 1; omega
  · show f.D % Cal.dl (f.M % 12 + 1) (f.L % 4 == 0) + 1 ≤ Cal.dl (f.M % 12 + 1) (f.L % 4 == 0); omega
  · show 0 ≤ f.W % 7; omega
  · show f.W % 7 ≤ 6; omega
  · show 0 ≤ f.O % 59; omega
  · show f.O % 59 ≤ 58; omega

set_option maxHeartbeats 2000000 in
theorem faced_any (f : Fc) (w : World) :
    Calls Try.prog 49 #[f.val] w fun e w' => e = .returned f.made.val ∧ Below w.heap.size w w' := by
  obtain ⟨D, M, L, W, O⟩ := f
  have hB := (Blk.new w 52 (Fc.cells ⟨D, M, L, W, O⟩)).alloc (.cells #[.int .i64 0, .int .i64 0, .int .i64 0, .int .i64 0, .int .i64 0] 52)
  have k1 := hB.cell 1
  have k2 := hB.cell 2
  have k3 := hB.cell 3
  have k4 := hB.cell 4
  have m0 : 0 ≤ M % 12 ∧ M % 12 < 12 := by omega
  have wr1 : IntKind.i64.wrap (M % 12 + 1) = M % 12 + 1 := IntWalk.i64_in _ (by omega)
  go_enter Try.func49, Try.ntmps49
  go_wp2_with fail
  go_region_held3 (fun w' => w'.cell? ⟨w.heap.size, 1, none⟩ = some (.int .i64 M) ∧ w'.cell? ⟨w.heap.size, 2, none⟩ = some (.int .i64 L) ∧ w'.cell? ⟨w.heap.size, 3, none⟩ = some (.int .i64 W) ∧ w'.cell? ⟨w.heap.size, 4, none⟩ = some (.int .i64 O)) (go_keep)
    (first | (go_at_call 48; refine (fold_any _ _ _ (by omega) (by omega)).mono ?_; rintro e w' ⟨rfl, rfl⟩))
  all_goals
    clear wr1
    refine forget1 (F := fun X => Below w.heap.size w X ∧ Blk X w.heap.size 52 (Fc.cells ⟨D, M, L, W, O⟩) ∧ Blk X (w.heap.size + 1) 52 #[.int .i64 0, .int .i64 0, .int .i64 0, .int .i64 0, .int .i64 0] ∧
      Blk X (w.heap.size + 1 + 1) 52 #[.int .i64 0, .int .i64 (M % 12 + 1), .int .i64 (L % 4), .int .i64 (W % 7), .int .i64 (O % 59)]) ?_ ?_
    · refine ⟨?_, ?_, ?_, ?_⟩
      · exact (((below2 w _ _).alloc (by simp; omega) _).drew)
      · exact (hB.alloc _).drew
      · exact ((Blk.new1 w _ 52 _).alloc _).drew
      · have t := Blk.new1 (w.alloc (.cells (Fc.cells ⟨D, M, L, W, O⟩) 52)) (.cells #[.int .i64 0, .int .i64 0, .int .i64 0, .int .i64 0, .int .i64 0] 52) 52 #[.int .i64 0, .int .i64 (M % 12 + 1), .int .i64 (L % 4), .int .i64 (W % 7), .int .i64 (O % 59)]
        rw [World.size_alloc] at t
        exact t.drew
    rintro X ⟨hbX, hBX, hRX, hGX⟩
    have hx := later_cell (w := X)
    have c1 := hBX.cell
    have c2 := hGX.cell
    have z1 := hGX.lt
    have z0 := hBX.lt
    have dlb := Cal.dl_bd (M % 12 + 1) (L % 4 == 0)
    have dm0 := Int.emod_nonneg D (b := Cal.dl (M % 12 + 1) (L % 4 == 0)) (by omega)
    have dm1 := Int.emod_lt_of_pos D (b := Cal.dl (M % 12 + 1) (L % 4 == 0)) (by omega)
    have wr2 : IntKind.i64.wrap (D % Cal.dl (M % 12 + 1) (L % 4 == 0) + 1) = D % Cal.dl (M % 12 + 1) (L % 4 == 0) + 1 := IntWalk.i64_in _ (by omega)
    obtain ⟨dlb1, dlb2⟩ := dlb
    clear dm0 dm1
    go_wp2_with fail
    refine wp_region_later_tail 11 (by kernel_rfl) (by kernel_rfl) ?_
    simp only [List.take_succ_cons, List.take_zero, List.drop_succ_cons, List.drop_zero]
    repeat (go_big_quiet_step (first
      | (go_at_call 24; exact later_call (rLength_any _ _ _ (by omega) (by omega)))
      | (go_at_call 48; exact later_same (fold_any _ _ _ (by have := (Cal.dl_bd (M % 12 + 1) (L % 4 == 0)).1; omega) (by have := (Cal.dl_bd (M % 12 + 1) (L % 4 == 0)).2; omega)))))
    refine wpQuiet_nil ?_
    rintro w2 ⟨⟨_, hb2⟩, rfl⟩
    have hR2 := hRX.later hb2
    have hG2 := hGX.later hb2
    have hc2 := hG2.cell
    have hf2 := hG2.frozen
    have hc3 := hR2.cell
    have hf3 := hR2.frozen
    have z2 := hG2.lt
    have hbW := hbX.trans (hb2.mono (by omega))
    clear hx c1 c2 wr2
    go_wp2_with fail
    refine bodyPost_cell (w.heap.size + 1) 52 (Fc.cells (Fc.made ⟨D, M, L, W, O⟩)) (Fc.val (Fc.made ⟨D, M, L, W, O⟩)) ?_ ?_ ⟨rfl, ?_⟩
    · exact (((((hR2.far (p := ⟨w.heap.size + 1 + 1, 0, none⟩) (by simp) _).set_ 0 _).set_ 1 _).set_ 2 _).set_ 3 _).set_ 4 _
    · intro W' hW'
      simp [results, Try.results49, go_sem, hW']
    · exact (((((hbW.setCell (by simp; omega) _).setCell (by simp) _).setCell (by simp) _).setCell (by simp) _).setCell (by simp) _).setCell (by simp) _
end Go.Proofs.Ytjlnkghjiaglmaa
