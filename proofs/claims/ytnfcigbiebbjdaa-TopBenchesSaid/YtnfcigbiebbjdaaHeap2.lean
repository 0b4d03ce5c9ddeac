/-
  Jobs that wait in a heap: one more, the first one off.
  Conditions: the heap's list lies in a block of the call's own.
-/
import Derived.Test.YtnfcigbiebbjdaaHeap1
namespace Go.Proofs.Ytnfcigbiebbjdaa
open Go.RowKit

theorem m_push (b : Nat) (w : World) : (method 247 76 (.pointer (some ⟨b, 0, none⟩)) "Push").run Try.prog w = .ok (134, .pointer (some ⟨b, 0, none⟩)) w := by kernel_rfl
theorem m_pop (b : Nat) (w : World) : (method 247 76 (.pointer (some ⟨b, 0, none⟩)) "Pop").run Try.prog w = .ok (133, .pointer (some ⟨b, 0, none⟩)) w := by kernel_rfl
theorem m_len (b : Nat) (w : World) : (method 247 76 (.pointer (some ⟨b, 0, none⟩)) "Len").run Try.prog w = .ok (68, .pointer (some ⟨b, 0, none⟩)) w := by kernel_rfl
theorem m_less (b : Nat) (w : World) : (method 247 76 (.pointer (some ⟨b, 0, none⟩)) "Less").run Try.prog w = .ok (132, .pointer (some ⟨b, 0, none⟩)) w := by kernel_rfl
theorem m_swap (b : Nat) (w : World) : (method 247 76 (.pointer (some ⟨b, 0, none⟩)) "Swap").run Try.prog w = .ok (135, .pointer (some ⟨b, 0, none⟩)) w := by kernel_rfl
theorem t_int (x : Int) (w : World) : (Instr.typeAssert (.iface 3 (.int .i64 x)) 20 3 true).run Try.prog w = .ok (.tuple #[.int .i64 x, .bool true]) w := by kernel_rfl

theorem app_ints_at (w : World) {ops : Array Oper} {rest : List Oper} {o : Oper} {a : Act} {Q : Exit → Act → World → Prop} (hgd : o.guard = none) (s x : Operand)
    (ho : o.op = .call { callee := .builtin .append, args := #[s, x], argTypes := #[23, 23] }) (base : Nat) (v : Value) (n : Nat) (xs : List Int) (hs : a.eval s = v) (hown : w.ownsRow base 3 1 v n (xs.map (Value.int .i64)))
    (ao : Option Addr) (m c : Nat) (l : List Int) (hx : a.eval x = .slice ao m c) (hr : RowI w ao m l) (hm : 0 < m) (hn : n + m ≤ 100000) (hbase : base ≤ w.heap.size)
    (h : ∀ g cap w', w'.ownsRow base 3 1 (.slice (some ⟨g, 0, none⟩) (n + m) cap) (n + m) ((xs ++ l).map (Value.int .i64)) → w.grownBy w' v.ownBlock → (v.ownBlock = some g ∨ g = w.heap.size) → wpList Try.prog ops Q rest (a.put o.dst (.slice (some ⟨g, 0, none⟩) (n + m) cap)) w') : wpList Try.prog ops Q (o :: rest) a w := by
  obtain ⟨i0, hi, hz0, hz1, hz2⟩ := info_parts info3
  obtain ⟨ad, e, _, _⟩ := hr.2 hm
  subst e
  refine wpList_append_lies w hgd s x 23 ho base 3 i0 (.int .i64 0) 1 8 Try.underlying23 hi hz0 hz1 hz2 rfl (by decide) v n _ hs hown ad m c (l.map (Value.int .i64)) hx (by rw [List.length_map, hr.1]; omega) (rowI_news hr hm) (ints_one _) hm (by unfold maxLen; omega) (by omega) hbase _ rfl ?_
  intro g cap w' hown' hgr hat _
  exact h _ _ _ (by rw [List.map_append]; exact hown') hgr hat

section
variable {S : Nat → Prop} {N0 base : Nat}
theorem HeapS.ne_own {w : World} {b : Nat} {fv v : Value} {L : List Int} (h : HeapS S N0 base w b fv v L) : some b ≠ v.ownBlock := by
  intro e
  rcases h.2.1.2 with ⟨h6, _⟩ | ⟨g, cap, cur, h6, h7, h8, _⟩
  · rw [h6] at e; cases e
  · rw [h6] at e
    simp [Value.ownBlock] at e
    subst e
    have h1 := h.1
    unfold Blk at h1
    rw [h8] at h1
    injection h1 with h1
    injection h1 with _ ht
    exact absurd ht (by decide)
set_option maxRecDepth 100000 in
set_option maxHeartbeats 2000000 in
theorem pushM_h {w W0 : World} {b : Nat} {fv v : Value} {L : List Int} (x : Int) (hS : ∀ k, S k → k < N0) (h : HeapS S N0 base w b fv v L) (hw : Fix S W0 w) (hbase : base ≤ w.heap.size) (hn : L.length ≤ 1000) :
    Calls Try.prog 134 #[.pointer (some ⟨b, 0, none⟩), .iface 3 (.int .i64 x)] w fun e w' => e = .returned (.tuple #[]) ∧ ∃ v', HeapS S N0 base w' b fv v' (L ++ [x]) ∧ Fix S W0 w' := by
  have ht := t_int x
  have h0 := Lib.hid h
  have hown := h.2.1
  have hc := h.1.cell
  have hl := h.1.lt
  have hba := (Below.refl w.heap.size w).alloc (Nat.le_refl _) (.cells #[.int .i64 x] 3)
  have hwa := hw.trans (Fix.of_below hba (fun k hk => Nat.lt_of_lt_of_le (hS k hk) h.2.2.2.2))
  have hri : RowI (w.alloc (.cells #[.int .i64 x] 3)) (some ⟨w.heap.size, 0, none⟩) 1 [x] := (row_lit w [x] 1 rfl).rowI
  have hown2 := own_later hown hba
  obtain ⟨n, hnl⟩ : ∃ n, n = L.length := ⟨_, rfl⟩
  rw [← hnl] at hn hown2
  have HL := Lib.hid hnl
  have HS := Lib.hid hS
  clear hw hown h hnl hS
  go_enter Try.func134, Try.ntmps134
  go_wp2_with (at_builtin; refine app_ints_at _ rfl (.tmp 16) (.tmp 18) rfl base v n L rfl hown2 (some ⟨w.heap.size, 0, none⟩) 1 1 [x] rfl hri (by omega) (by omega) (by simp; omega) ?_)
  intro R cap w1 hown3 hgr hat
  have hb1 : Blk w1 b 80 #[v, fv] := (h0.out.1.later hba).grown hgr h0.out.ne_own
  have hsz0 : N0 ≤ (w.alloc (.cells #[.int .i64 x] 3)).heap.size := by have := h0.out.2.2.2.2; simp; omega
  have hf1 : Fix S W0 w1 := hwa.grown hgr HS.out hsz0 h0.out.2.2.2.1
  have hSR : ¬ S R := by
    rcases hat with e | e
    · exact h0.out.2.2.2.1 R e
    · intro hk
      have h1 := HS.out R hk
      have h2 := h0.out.2.2.2.2
      (try rw [World.size_alloc] at e)
      omega
  have hRb : R ≠ b := by
    rcases hat with e | e
    · intro e2
      subst e2
      exact h0.out.ne_own e.symm
    · intro e2
      have := h0.out.1.lt
      (try rw [World.size_alloc] at e)
      omega
  have hb2 : Blk (w1.setCell ⟨b, 0, none⟩ (.slice (some ⟨R, 0, none⟩) (n + 1) cap)) b 80 #[.slice (some ⟨R, 0, none⟩) (n + 1) cap, fv] := hb1.set_ 0 _
  have hf2 := hf1.setCell (p := ⟨b, 0, none⟩) h0.out.2.2.1 (.slice (some ⟨R, 0, none⟩) (n + 1) cap)
  have hown4 : (w1.setCell ⟨b, 0, none⟩ (.slice (some ⟨R, 0, none⟩) (n + 1) cap)).ownsRow base 3 1 (.slice (some ⟨R, 0, none⟩) (n + 1) cap) (n + 1) ((L ++ [x]).map (Value.int .i64)) := by
    have h := hown3.kept (only_setCell (World.grownBy.refl w1 (some b)) (p := ⟨b, 0, none⟩) (.inl rfl) (.slice (some ⟨R, 0, none⟩) (n + 1) cap)) (.inr (by simp [Value.ownBlock]; exact hRb))
    simpa using h
  have hfin : Hid (HeapS S N0 base (w1.setCell ⟨b, 0, none⟩ (.slice (some ⟨R, 0, none⟩) (n + 1) cap)) b fv (.slice (some ⟨R, 0, none⟩) (n + 1) cap) (L ++ [x]) ∧ Fix S W0 (w1.setCell ⟨b, 0, none⟩ (.slice (some ⟨R, 0, none⟩) (n + 1) cap))) := by
    refine ⟨⟨hb2, ?_, h0.out.2.2.1, fun k hk => ?_, ?_⟩, hf2⟩
    · have e : (L ++ [x]).length = n + 1 := by rw [List.length_append, HL.out]; rfl
      rw [e]
      exact hown4
    · simp [Value.ownBlock] at hk
      subst hk
      exact hSR
    · have := hgr.size
      simp [World.setCell]
      omega
  have hc1 := hb1.cell
  have hfr := hb1.frozen 0
  have hlt := hb1.lt
  clear hown3 hown4 hgr hat hb1 hb2 hf1 hf2 hown2 hri hwa hba hc
  go_wp2_with fail
  go_end0
  exact ⟨rfl, _, hfin.out⟩

set_option maxRecDepth 100000 in
set_option maxHeartbeats 2000000 in
theorem popM_h {w W0 : World} {b : Nat} {fv v : Value} {L : List Int} {x : Int} (hS : ∀ k, S k → k < N0) (h : HeapS S N0 base w b fv v (L ++ [x])) (hw : Fix S W0 w) (hn : L.length ≤ 1000) :
    Calls Try.prog 133 #[.pointer (some ⟨b, 0, none⟩)] w fun e w' => e = .returned (.iface 3 (.int .i64 x)) ∧ ∃ v', HeapS S N0 base w' b fv v' L ∧ Fix S W0 w' := by
  have h0 := Lib.hid h
  obtain ⟨R, c, rfl, hcap, hne, hR, hSR, hcell, _⟩ := h.some_ (by simp)
  have hlen : (L ++ [x]).length = L.length + 1 := by simp
  have hcx : w.cell? ⟨R, L.length, none⟩ = some (.int .i64 x) := by
    rw [hcell L.length (by omega)]
    unfold at_
    simp
  have hown := own_short h.2.1 L.length (by omega)
  rw [List.take_left] at hown
  rw [hlen] at hcap h
  have hc := h.1.cell
  have hl := h.1.lt
  obtain ⟨n, hnl⟩ : ∃ n, n = L.length := ⟨_, rfl⟩
  have hB0 := h.1
  rw [← hnl] at hcap hcx hn hown hc hB0
  have HL := Lib.hid hnl
  have HB := Lib.hid hB0
  have HW := Lib.hid hw
  have HO := Lib.hid hown
  clear h hw hown hcell hnl hlen hB0
  have hn1 : ((n + 1 : Nat) : Int) - 1 = (n : Int) := by omega
  have hxl := later_cell (w := w)
  go_enter Try.func133, Try.ntmps133
  go_wp2_with fail
  refine wp_region_later (by kernel_rfl) (by kernel_rfl) ?_
  repeat (go_big_quiet_step (fail))
  refine wpQuiet_nil ?_
  rintro w2 ⟨⟨_, hb2⟩, rfl⟩
  have hB2 := HB.out.later hb2
  have hc2 := hB2.cell
  have hl2 := hB2.lt
  have hf2 := hB2.frozen 0
  have hO2 := own_later HO.out hb2
  have hW2 : Fix S W0 w2 := HW.out.trans (Fix.of_below (S := S) hb2 (fun k hk => Nat.lt_of_lt_of_le (hS k hk) h0.out.2.2.2.2))
  have hb3 : Blk (w2.setCell ⟨b, 0, none⟩ (.slice (some ⟨R, 0, none⟩) n c)) b 80 #[.slice (some ⟨R, 0, none⟩) n c, fv] := hB2.set_ 0 _
  have hw3 := hW2.setCell (p := ⟨b, 0, none⟩) h0.out.2.2.1 (.slice (some ⟨R, 0, none⟩) n c)
  have hO3 := hO2.kept (only_setCell (World.grownBy.refl w2 (some b)) (p := ⟨b, 0, none⟩) (.inl rfl) (.slice (some ⟨R, 0, none⟩) n c)) (.inr (by simp [Value.ownBlock]; exact hne))
  have hfin : Hid (HeapS S N0 base (w2.setCell ⟨b, 0, none⟩ (.slice (some ⟨R, 0, none⟩) n c)) b fv (.slice (some ⟨R, 0, none⟩) n c) L ∧ Fix S W0 (w2.setCell ⟨b, 0, none⟩ (.slice (some ⟨R, 0, none⟩) n c))) := by
    refine ⟨⟨hb3, ?_, h0.out.2.2.1, fun k hk => ?_, ?_⟩, hw3⟩
    · rw [← HL.out]; exact hO3
    · simp [Value.ownBlock] at hk
      subst hk
      exact hSR
    · have h1 := h0.out.2.2.2.2
      have h2 := hb2.size
      simp [World.setCell]
      omega
  have hDrew : Hid (∀ (W : World), HeapS S N0 base W b fv (.slice (some ⟨R, 0, none⟩) n c) L ∧ Fix S W0 W → HeapS S N0 base W.drew b fv (.slice (some ⟨R, 0, none⟩) n c) L ∧ Fix S W0 W.drew) := fun W hW =>
    ⟨hW.1.later (Below.refl _ _).drew, hW.2.drew⟩
  have hnc : n ≤ c := by omega
  have hnci : (n : Int) ≤ (c : Int) := by omega
  clear hxl hc hcx hl hb2 hB2 hO2 hW2 hb3 hw3 hO3
  go_wp2_with fail
  go_big_region
  all_goals go_wp2_with fail
  all_goals go_ret
  all_goals exact ⟨rfl, _, hDrew.out _ hfin.out⟩
end
end Go.Proofs.Ytnfcigbiebbjdaa
