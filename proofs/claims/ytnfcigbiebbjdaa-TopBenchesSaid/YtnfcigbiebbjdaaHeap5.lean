/-
  Jobs that wait in a heap: one more; the first one off.
  Conditions: the heap's list lies in a block of the call's own; the comparison is a strict weak order.
-/
import Derived.Test.YtnfcigbiebbjdaaHeap4
namespace Go.Proofs.Ytnfcigbiebbjdaa
open Go.RowKit

section
variable {S : Nat → Prop} {N0 base : Nat}
set_option maxRecDepth 100000 in
set_option maxHeartbeats 1000000 in
theorem push_h {w : World} {b g : Nat} {cb : Array Value} {v : Value} {L : List Int} {lt : Int → Int → Bool} {D : Int → Prop} (T : Lt lt) (hS : ∀ k, S k → k < N0) (h : HeapS S N0 base w b (.func (.func g) #[] cb) v L) (C : LessC S w g cb lt D) (hD : ∀ x ∈ L, D x)
    (x : Int) (hx : D x) (hbase : base ≤ w.heap.size) (hn : L.length ≤ 900) (hP : HeapP lt L L.length) :
    Calls Try.prog 67 #[.iface 76 (.pointer (some ⟨b, 0, none⟩)), .iface 3 (.int .i64 x)] w fun e w' => e = .returned (.tuple #[]) ∧ ∃ v' L', L'.Perm (x :: L) ∧ HeapP lt L' L'.length ∧ HeapS S N0 base w' b (.func (.func g) #[] cb) v' L' ∧ Fix S w w' := by
  have hm1 := m_push b
  have hm2 := m_len b
  have M1 := Lib.hid (pushM_h x hS h (Fix.refl S w) hbase (by omega))
  have HT := Lib.hid T
  have HS := Lib.hid hS
  have HC := Lib.hid C
  have HD : Hid (∀ y ∈ L ++ [x], D y) := fun y hy => by
    rcases List.mem_append.1 hy with hy | hy
    · exact hD y hy
    · obtain rfl : y = x := by simpa using hy
      exact hx
  have HU := Lib.hid (HeapP.push (x := x) hP)
  obtain ⟨n, hnl⟩ : ∃ n, n = L.length := ⟨_, rfl⟩
  rw [← hnl] at hn HU
  have HL : Hid ((L ++ [x]).length = n + 1) := by show _ = _; rw [List.length_append, hnl]; rfl
  have HPm : Hid ((L ++ [x]).Perm (x :: L)) := List.perm_append_comm
  clear T hS C hD hP h hx hnl
  go_enter Try.func67, Try.ntmps67
  go_wp2_with fail
  refine M1.out.mono ?_
  rintro e w1 ⟨rfl, v1, h1, hf1⟩
  have LM := Lib.hid (len_h h1)
  rw [HL.out] at LM
  have en : ((n + 1 : Nat) : Int) - 1 = (n : Int) := by omega
  have en2 : ((n : Int) + 1) - 1 = (n : Int) := by omega
  have UM := Lib.hid (up_h HT.out HS.out h1 HC.out hf1 HD.out n (n + 1) HL.out (by omega) (by omega) HU.out)
  clear M1 h1 hf1
  go_wp2_with fail
  refine LM.out.mono ?_
  rintro e w' ⟨rfl, rfl⟩
  clear LM
  go_wp2_with fail
  refine UM.out.mono ?_
  rintro e w2 ⟨rfl, L2, hP2, hH2, h2, hf2⟩
  have HP2 := Lib.hid (hP2.trans HPm.out)
  have HH2 := Lib.hid hH2
  clear UM hP2 hH2
  go_wp2_with fail
  go_end0
  exact ⟨rfl, v1, L2, HP2.out, HH2.out, h2, hf2⟩

set_option maxRecDepth 100000 in
set_option maxHeartbeats 1000000 in
theorem pop_h {w : World} {b g : Nat} {cb : Array Value} {v : Value} {L : List Int} {lt : Int → Int → Bool} {D : Int → Prop} (T : Lt lt) (hS : ∀ k, S k → k < N0) (h : HeapS S N0 base w b (.func (.func g) #[] cb) v L) (C : LessC S w g cb lt D) (hD : ∀ x ∈ L, D x)
    (n : Nat) (hln : L.length = n + 1) (hn : n ≤ 900) (hP : HeapP lt L L.length) :
    Calls Try.prog 70 #[.iface 76 (.pointer (some ⟨b, 0, none⟩))] w fun e w' => ∃ r, e = .returned r ∧ ∃ v' L', (at_ L 0 :: L').Perm L ∧ HeapP lt L' L'.length ∧ HeapS S N0 base w' b (.func (.func g) #[] cb) v' L' ∧ Fix S w w' := by
  have hm1 := m_pop b
  have hm2 := m_len b
  have hm3 := m_swap b
  have LM := Lib.hid (len_h h)
  rw [hln] at LM
  have SM := Lib.hid (swap_h h (Fix.refl S w) 0 n (by omega) (by omega) (by omega))
  have HT := Lib.hid T
  have HS := Lib.hid hS
  have HC := Lib.hid C
  have HU := Lib.hid (HeapP.pop hP hln)
  have HPs : Hid ((swp L 0 n).Perm L) := swp_perm (by omega) (by omega)
  have HD : Hid (∀ y ∈ swp L 0 n, D y) := fun y hy => hD y (HPs.out.mem_iff.1 hy)
  have HLs : Hid ((swp L 0 n).length = n + 1) := (swp_len _ _ _).trans hln
  have HLast : Hid (at_ (swp L 0 n) n = at_ L 0) := by show _ = _; rw [at_swp (by omega) (by omega), if_pos rfl]
  clear T hS C hD hP h hln
  have en : ((n + 1 : Nat) : Int) - 1 = (n : Int) := by omega
  have en2 : ((n : Int) + 1) - 1 = (n : Int) := by omega
  go_enter Try.func70, Try.ntmps70
  go_wp2_with fail
  refine LM.out.mono ?_
  rintro e w' ⟨rfl, rfl⟩
  clear LM
  go_wp2_with fail
  refine SM.out.mono ?_
  rintro e w1 ⟨rfl, h1, hf1⟩
  have DM := Lib.hid (down_h HT.out HS.out h1 HC.out hf1 HD.out n (n + 1) HLs.out (by omega) (by omega) HU.out)
  clear SM h1 hf1
  go_wp2_with fail
  refine DM.out.mono ?_
  rintro e w2 ⟨r, L2, rfl, hP2, hH2, hT2, h2, hf2⟩
  have hl2 : L2.length = n + 1 := hP2.length_eq.trans HLs.out
  have hsplit : L2 = L2.take n ++ [at_ L 0] := by
    have h3 := hT2 n (Nat.le_refl _)
    rw [HLast.out] at h3
    rw [← h3]
    have h4 : L2[n]? = some (at_ L2 n) := getD_get (by omega)
    have h5 := List.take_add_one (l := L2) (i := n)
    rw [h4, List.take_of_length_le (by omega)] at h5
    exact h5
  have HPf : Hid ((at_ L 0 :: L2.take n).Perm L) := by
    refine List.Perm.trans ?_ (hP2.trans HPs.out)
    exact (List.perm_append_comm (l₁ := [at_ L 0]) (l₂ := L2.take n)).trans (by rw [← hsplit])
  have HHf := Lib.hid (hH2.take (by omega))
  rw [hsplit] at h2
  have PM := Lib.hid (popM_h HS.out h2 hf2 (by rw [List.length_take]; omega))
  clear DM h2 hf2 hP2 hH2 hT2 hsplit hl2
  go_wp2_with fail
  refine PM.out.mono ?_
  rintro e w3 ⟨rfl, v3, h3, hf3⟩
  clear PM
  go_wp2_with fail
  go_ret
  exact ⟨_, rfl, v3, L2.take n, HPf.out, HHf.out, h3, hf3⟩
end
end Go.Proofs.Ytnfcigbiebbjdaa
