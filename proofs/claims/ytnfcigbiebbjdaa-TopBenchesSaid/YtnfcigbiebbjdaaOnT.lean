/-
  The comparison of the jobs that OnTime keeps; what the heap leaves as it lay.
  Conditions: the slices start at the heads of blocks.
-/
import Derived.Test.YtnfcigbiebbjdaaHeap5
import Derived.Test.YtnfcigbiebbjdaaMoore
import Derived.Test.YtnfcigbiebbjdaaDue4
namespace Go.Proofs.Ytnfcigbiebbjdaa
open Go.RowKit

def workLt (l : List Jb) (x y : Int) : Bool := decide ((jat l y).work < (jat l x).work)
theorem workLt_lt (l : List Jb) : Lt (workLt l) where
  asymm x y h := by unfold workLt at h ⊢; simp at h ⊢; omega
  neg x y z h1 h2 := by unfold workLt at h1 h2 ⊢; simp at h1 h2 ⊢; omega
set_option maxHeartbeats 1000000 in
theorem workCmp_any (A : Option Addr) (n c b i j : Nat) (l : List Jb) (W : World) (h2 : Blk W b 22 #[.slice A n c]) (rA : JobsH W A n l) (hi : i < n) (hj : j < n) :
    Calls Try.prog 71 #[.int .i64 i, .int .i64 j, .pointer (some ⟨b, 0, none⟩)] W fun e w' => e = .returned (.bool (workLt l i j)) ∧ Below W.heap.size W w' := by
  obtain ⟨g, x, rfl, hg, hx, x0, x1, x2, x3, BX, mX, cX, x4, _⟩ := rA.at_ hi
  obtain ⟨g', y, e1, _, hy, y0, y1, y2, y3, BY, mY, cY, y4, _⟩ := rA.at_ hj
  cases e1
  have HS : Hid (workLt l i j = decide (x.work > y.work)) := by
    show _ = _
    unfold workLt
    rw [jat_get hx, jat_get hy]
  have l2 := h2.lt
  have c2 := h2.cell
  have hij : (i : Int) < (n : Int) := by omega
  have hjj : (j : Int) < (n : Int) := by omega
  have hxl := later_cell (w := W)
  obtain ⟨q, hq⟩ : ∃ q, decide (x.work > y.work) = q := ⟨_, rfl⟩
  rw [hq] at HS
  clear rA hx hy h2
  generalize workLt l i j = q2 at *
  obtain rfl : q2 = q := HS.out
  go_enter Try.func71, Try.ntmps71
  go_wp2_with fail
  refine wp_region_later (by kernel_rfl) (by kernel_rfl) ?_
  repeat (go_big_quiet_step (fail))
  refine wpQuiet_nil ?_
  rintro w2 ⟨⟨_, hb2⟩, rfl⟩
  go_wp2_with fail
  go_ret
  exact ⟨rfl, hb2⟩
theorem Blk.fix {S : Nat → Prop} {w w' : World} {g : Nat} {t : TypeId} {cs : Array Value} (h : Blk w g t cs) (hf : Fix S w w') (hg : S g) : Blk w' g t cs := (hf.2.2.2.2 g hg).trans h
theorem RowH.fix {S : Nat → Prop} {w w' : World} {A : Option Addr} {n : Nat} {l : List Int} (h : RowH w A n l) (hf : Fix S w w') (hg : 0 < n → ∀ g, A = some ⟨g, 0, none⟩ → S g) : RowH w' A n l :=
  ⟨h.1, fun hn => by
    obtain ⟨g, e, hlt, hc⟩ := h.2 hn
    refine ⟨g, e, Nat.lt_of_lt_of_le hlt hf.2.2.2.1, fun k v hk => ?_⟩
    have := hc k v hk
    simp only [World.cell?] at this ⊢
    rw [hf.2.2.2.2 g (hg hn g e)]
    exact this⟩
theorem LessC.at_ {S : Nat → Prop} {W0 W : World} {g : Nat} {cb : Array Value} {lt : Int → Int → Bool} {D : Int → Prop} (h : LessC S W0 g cb lt D) (hf : Fix S W0 W) : LessC S W g cb lt D :=
  ⟨h.enters, fun V hV => h.tells V (hf.trans hV)⟩
theorem work_less {S : Nat → Prop} {w W0 : World} {A : Option Addr} {n c bx : Nat} {l : List Jb} (h2 : Blk W0 bx 22 #[.slice A n c]) (hbx : S bx) (rA : JobsH w A n l) (hb : Below w.heap.size w W0) (hS : ∀ k, k < w.heap.size → S k) :
    LessC S W0 71 #[.pointer (some ⟨bx, 0, none⟩)] (workLt l) (fun x => 0 ≤ x ∧ x < (n : Int)) where
  enters := enters_of Try.func71 (by kernel_rfl) rfl
  tells := by
    rintro W hW x y ⟨x0, x1⟩ ⟨y0, y1⟩
    obtain ⟨i, rfl⟩ := Int.eq_ofNat_of_zero_le x0
    obtain ⟨j, rfl⟩ := Int.eq_ofNat_of_zero_le y0
    exact workCmp_any A n c bx i j l W (h2.fix hW hbx) (rA.later (hb.trans (hW.below hS))) (by omega) (by omega)
theorem m_first0 (b : Nat) (w : World) : (method 247 76 (.pointer (some ⟨b, 0, none⟩)) (String.ofList ([116, 111, 117, 114, 98, 105, 108, 108, 111, 110, 47, 113, 117, 101, 117, 101, 46, 102, 105, 114, 115, 116].map Char.ofNat))).run Try.prog w = .ok (69, .pointer (some ⟨b, 0, none⟩)) w := by kernel_rfl

/-- What OnTime returns. -/
def OnTimeR (w : World) (l : List Jb) (n : Nat) (e : Ending) (w' : World) : Prop :=
  ∃ (A : Option Addr) (q c : Nat) (o : List Int), e = .returned (.tuple #[.int .i64 q, .slice A q c, .int .i64 0]) ∧ RowH w' A q o ∧ RiseP n o ∧ AbleT l 0 o ∧ (∀ T : List Int, T.Nodup → (∀ z ∈ T, 0 ≤ z ∧ z < (n : Int)) → AbleT l 0 T → T.length ≤ q) ∧ Below w.heap.size w w'
end Go.Proofs.Ytnfcigbiebbjdaa
