/-
  The contract of same: two slices that read as one list.
  Conditions: the slices start at the heads of blocks.
-/
import Derived.Test.YtjlnkghjiaglmaaLeaf
import Derived.Test.YtjlnkghjiaglmaaKit2
namespace Go.Proofs.Ytjlnkghjiaglmaa
open Go.RowKit

theorem Blk.new2 (w : World) (o p : Obj) (t : TypeId) (cs : Array Value) : Blk (((w.alloc o).alloc p).alloc (.cells cs t)) (w.heap.size + 1 + 1) t cs := by
  have h := Blk.new ((w.alloc o).alloc p) t cs
  rwa [World.size_alloc, World.size_alloc] at h
theorem Blk.new3 (w : World) (o p q : Obj) (t : TypeId) (cs : Array Value) : Blk ((((w.alloc o).alloc p).alloc q).alloc (.cells cs t)) (w.heap.size + 1 + 1 + 1) t cs := by
  have h := Blk.new (((w.alloc o).alloc p).alloc q) t cs
  rwa [World.size_alloc, World.size_alloc, World.size_alloc] at h

/-- A slice that reads as a list of integers. -/
def RowI (w : World) (A : Option Addr) (n : Nat) (l : List Int) : Prop :=
  l.length = n ∧ (0 < n → ∃ g, A = some ⟨g, 0, none⟩ ∧ g < w.heap.size ∧ ∀ (k : Nat) (v : Int), l[k]? = some v → w.cell? ⟨g, k, none⟩ = some (.int .i64 v))
theorem RowI.later {w w' : World} {A : Option Addr} {n : Nat} {l : List Int} (h : RowI w A n l) (hb : Below w.heap.size w w') : RowI w' A n l :=
  ⟨h.1, fun hn => by
    obtain ⟨g, e, hg, hc⟩ := h.2 hn
    exact ⟨g, e, Nat.lt_of_lt_of_le hg hb.size, fun k v hk => (hb.cell (p := ⟨g, k, none⟩) hg).trans (hc k v hk)⟩⟩
theorem RowI.at_ {w : World} {A : Option Addr} {n k : Nat} {l : List Int} (h : RowI w A n l) (hk : k < n) : ∃ g, A = some ⟨g, 0, none⟩ ∧ g < w.heap.size ∧ w.cell? ⟨g, k, none⟩ = some (.int .i64 (l.getD k 0)) := by
  obtain ⟨g, e, hg, hc⟩ := h.2 (by omega)
  have hl : k < l.length := by have := h.1; omega
  refine ⟨g, e, hg, hc k _ ?_⟩
  rw [List.getD_eq_getElem?_getD, List.getElem?_eq_getElem hl]
  rfl
theorem RowI.of_blk {w : World} {g : Nat} {t : TypeId} {cs : Array Value} (l : List Int) (h : Blk w g t cs) (e : cs.toList = l.map (Value.int .i64)) (n : Nat) (hn : l.length = n) : RowI w (some ⟨g, 0, none⟩) n l :=
  ⟨hn, fun _ => ⟨g, rfl, h.lt, fun k v hk => by
    rw [h.cell, ← Array.getElem?_toList, e, List.getElem?_map, hk]
    rfl⟩⟩
theorem RowI.nil (w : World) : RowI w none 0 [] := ⟨rfl, fun h => absurd h (by omega)⟩

set_option maxHeartbeats 400000 in
theorem same_true (A B : Option Addr) (n c d : Nat) (l : List Int) (w : World) (ha : RowI w A n l) (hb : RowI w B n l) (hn : n ≤ 140737488351232) :
    Calls Try.prog 36 #[.slice A n c, .slice B n d] w fun e w' => e = .returned (.bool true) ∧ Below w.heap.size w w' := by
  go_enter Try.func36, Try.ntmps36
  go_wp2_with fail
  go_loopw [5] (fun i wr => ∃ k : Nat, k ≤ n ∧ i = .int .i64 k ∧ Below w.heap.size w wr) (fun i _ => n - (intOf i).toNat)
  case atStart => exact ⟨0, by omega, rfl, Below.refl _ _⟩
  case round =>
    obtain ⟨k, hk, rfl, hbr⟩ := hrel
    by_cases hlt : k < n
    · obtain ⟨g, rfl, hg, hc⟩ := (ha.later hbr).at_ hlt
      obtain ⟨g2, rfl, hg2, hc2⟩ := (hb.later hbr).at_ hlt
      have hx := later_cell (w := wr)
      go_wp2_with fail
      refine wp_region_later (by kernel_rfl) (by kernel_rfl) ?_
      repeat (go_big_quiet_step (fail))
      refine wpQuiet_nil ?_
      rintro w2 ⟨⟨_, hb2⟩, rfl⟩
      clear hx hc hc2
      go_wp2_with fail
      go_roundw
      case rel => exact ⟨k + 1, by omega, by go_num, hbr.trans (hb2.mono hbr.size)⟩
      case measure => simp [intOf]; omega
    · have hkn : k = n := by omega
      clear hk
      subst hkn
      go_wp2_with fail
      go_ret
      exact ⟨rfl, hbr⟩
end Go.Proofs.Ytjlnkghjiaglmaa
