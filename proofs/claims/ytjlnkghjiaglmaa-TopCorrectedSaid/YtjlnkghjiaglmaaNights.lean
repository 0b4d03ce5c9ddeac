/-
  The contract of Midnight of package dial at a valid face and number of nights.
  Conditions: as said.
-/
import Derived.Test.YtjlnkghjiaglmaaFaces2
namespace Go.Proofs.Ytjlnkghjiaglmaa
open Go.RowKit

abbrev Z5 : Array Value := #[.int .i64 0, .int .i64 0, .int .i64 0, .int .i64 0, .int .i64 0]

set_option maxHeartbeats 1000000 in
theorem Midnight_yes (f : Fc) (n : Int) (w : World) (h : f.ok) (h1 : 0 ≤ n) (h2 : n ≤ 100000) :
    Calls Try.prog 50 #[f.val, .int .i64 n] w fun e w' => e = .returned (.tuple #[(Fc.nights n.toNat f).val, .int .i64 0]) ∧ Below w.heap.size w w' := by
  have hf := fun w => Lib.hid (face_yes f w h)
  have HF := Lib.hid hf
  have hall := Lib.hid (Fc.nights_ok h)
  clear hf h
  have hB := (Blk.new w 52 f.cells).alloc (.cells Z5 52)
  have hR := Blk.new1 w (.cells f.cells 52) 52 Z5
  have hbw := below2 w (.cells f.cells 52) (.cells Z5 52)
  go_enter Try.func50, Try.ntmps50
  go_wp2_with fail
  refine (HF.out _).out.mono ?_; rintro e w1 ⟨rfl, hb1⟩
  have hB1 := hB.later hb1
  have hR1 := hR.later hb1
  have hbw1 := hbw.trans (hb1.mono (by simp; omega))
  clear hbw hb1 hB hR
  go_wp2_with fail
  go_loopw [19] (fun i wr => ∃ k : Nat, (k : Int) ≤ n ∧ i = .int .i64 k ∧ Blk wr w.heap.size 52 (Fc.nights k f).cells ∧ Blk wr (w.heap.size + 1) 52 Z5 ∧ Below w.heap.size w wr) (fun i _ => (n - intOf i).toNat)
  case atStart => exact ⟨0, h1, rfl, hB1, hR1, hbw1⟩
  case round =>
    obtain ⟨k, hk, rfl, hBr, hRr, hbr⟩ := hrel
    have hc := hBr.cell
    have hf := hBr.frozen
    have hz := hRr.lt
    by_cases hlt : (k : Int) < n
    · have hm := fun w => Lib.hid (midnight_any (Fc.nights k f) w (hall.out k))
      have HM := Lib.hid hm
      clear hm
      go_wp2_with fail
      refine (HM.out _).out.mono ?_; rintro e w2 ⟨rfl, hb2⟩
      have hB2 := hBr.later hb2
      have hR2 := hRr.later hb2
      have hc2 := hB2.cell
      have hf2 := hB2.frozen
      have hz2 := hR2.lt
      have hs2 := hb2.size
      clear hc hf
      go_wp2_with fail
      go_roundw
      case rel =>
        refine ⟨k + 1, by omega, by go_num, ?_, ?_, ?_⟩
        · exact ((((hB2.set_ 0 _).set_ 1 _).set_ 2 _).set_ 3 _).set_ 4 _
        · exact ((((hR2.far (by simp) _).far (by simp) _).far (by simp) _).far (by simp) _).far (by simp) _
        · have t := hbr.trans (hb2.mono (by omega))
          exact ((((t.setCell (by simp) _).setCell (by simp) _).setCell (by simp) _).setCell (by simp) _).setCell (by simp) _
      case measure => simp [intOf]; omega
    · obtain rfl : n = (k : Int) := by omega
      have hc2 := hRr.cell
      have hf2 := hRr.frozen
      go_wp2_with fail
      refine bodyPost_cell (w.heap.size + 1) 52 (Fc.nights k f).cells (.tuple #[(Fc.nights k f).val, .int .i64 0]) ?_ ?_ ⟨by simp, ?_⟩
      · exact ((((hRr.set_ 0 _).set_ 1 _).set_ 2 _).set_ 3 _).set_ 4 _
      · intro W' hW'
        simp [results, Try.results50, go_sem, hW']
      · exact ((((hbr.setCell (by simp) _).setCell (by simp) _).setCell (by simp) _).setCell (by simp) _).setCell (by simp) _
end Go.Proofs.Ytjlnkghjiaglmaa
