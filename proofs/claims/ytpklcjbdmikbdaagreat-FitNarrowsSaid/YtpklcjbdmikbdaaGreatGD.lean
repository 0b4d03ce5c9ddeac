/-
  The seat's texts DigA DigB DigC DigD DigE in one: the contracts of the functions that the law reaches, and the plain laws that they rest on.
  Conditions: as each theorem states them.
-/
import Derived.Test.YtpklcjbdmikbdaaGreatGL
import Derived.Test.YtpklcjbdmikbdaaGreatGP
import Derived.Test.YtpklcjbdmikbdaaGreatGG
namespace Go.Proofs.YtpklcjbdmikbdaaGreat
set_option maxRecDepth 100000
open Go.RowKit

/-- Digits as integers. -/
def dI (l : List Nat) : List Int := l.map fun (x : Nat) => (x : Int)
theorem dI_len (l : List Nat) : (dI l).length = l.length := by simp [dI]
theorem dI_take (l : List Nat) (m : Nat) : dI (l.take m) = (dI l).take m := by simp [dI, List.map_take]
theorem dI_app (a b : List Nat) : dI (a ++ b) = dI a ++ dI b := by simp [dI]
theorem dI_get {l : List Nat} {k x : Nat} (h : l[k]? = some x) : (dI l).getD k 0 = (x : Int) := by simp [dI, List.getD_eq_getElem?_getD, h]
/-- A number's digits in memory. -/
def MagD (w : World) (v : Value) (k : Nat) : Prop := ∃ A c, v = .slice A (digs k).length c ∧ RowH w A (digs k).length (dI (digs k)) ∧ (digs k).length ≤ c
theorem MagD.later {w w' : World} {v : Value} {k : Nat} (h : MagD w v k) (hb : Below w.heap.size w w') : MagD w' v k := by
  obtain ⟨A, c, e, hr, hc⟩ := h
  exact ⟨A, c, e, hr.later hb, hc⟩
theorem RowH.take {w : World} {A : Option Addr} {n m : Nat} {l : List Int} (h : RowH w A n l) (hm : m ≤ n) : RowH w A m (l.take m) := by
  refine ⟨by rw [List.length_take, h.1]; omega, fun h0 => ?_⟩
  obtain ⟨g, e, hg, hc⟩ := h.2 (by omega)
  refine ⟨g, e, hg, fun k v hk => hc k v ?_⟩
  have hkm : k < m := by have := (List.getElem?_eq_some_iff.1 hk).1; rw [List.length_take] at this; omega
  rwa [List.getElem?_take_of_lt hkm] at hk
theorem RowH.far {w : World} {A : Option Addr} {n : Nat} {l : List Int} (h : RowH w A n l) {p : Addr} (hp : ∀ g, A = some ⟨g, 0, none⟩ → g ≠ p.block) (u : Value) : RowH (w.setCell p u) A n l :=
  h.grown (r := p.block) (only_setCell (World.grownBy.refl _ _) (.inl rfl) u) hp
/-- What is returned: a number with a sign. -/
def ZR (w : World) (s : Bool) (k : Nat) (e : Ending) (w' : World) : Prop := ∃ v, e = .returned (.agg #[.bool (s && decide (0 < k)), v]) ∧ MagD w' v k ∧ Below w.heap.size w w'
set_option maxHeartbeats 16000000 in
theorem lean_any (A : Option Addr) (n c : Nat) (l : List Nat) (s : Bool) (w : World) (rA : RowH w A n (dI l)) (hl : Digit l) (hn : n ≤ 1000) (hc : n ≤ c) : Calls Tryz.prog 53 #[.agg #[.bool s, .slice A n c]] w (ZR w s (vad l)) := by
  have HL := Lib.hid hl
  have HLN : Hid (l.length = n) := by show _ = _; rw [← dI_len, rA.1]
  have kZ := (Blk.new w 45 #[.bool s, .slice A n c]).alloc (.cells #[.bool false, .slice none 0 0] 45)
  have e1 : (w.alloc (.cells #[.bool s, .slice A n c] 45)).heap.size = w.heap.size + 1 := by simp
  have kR := Blk.new (w.alloc (.cells #[.bool s, .slice A n c] 45)) 45 #[.bool false, .slice none 0 0]
  rw [e1] at kR
  have hb1 : Below w.heap.size w ((w.alloc (.cells #[.bool s, .slice A n c] 45)).alloc (.cells #[.bool false, .slice none 0 0] 45)) := ((Below.refl _ _).alloc (Nat.le_refl _) _).alloc (by simp) _
  have HR0 := Lib.hid rA
  clear e1 hl rA
  go_enter Tryz.func53, Tryz.ntmps53
  go_upto_region 1 with fail
  revert kZ kR hb1
  generalize (w.alloc (.cells #[.bool s, .slice A n c] 45)).alloc (.cells #[.bool false, .slice none 0 0] 45) = w1
  generalize hNe : w.heap.size = N
  intro kZ kR hb1
  have HNe := Lib.hid hNe
  have hsz := hb1.size
  rw [hNe] at hsz
  clear hNe
  have HR : Hid (RowH w1 A n (dI l)) := HR0.out.later (by rw [HNe.out]; exact hb1)
  have lR := kR.lt
  clear HR0
  have cZ := kZ.cell
  have lZ := kZ.lt
  go_wp2_with fail
  clear cZ lZ
  go_loopw [3] (fun v wr => ∃ m : Nat, m ≤ n ∧ v = .int .i64 (m : Int) ∧ Hid (vad (l.take m) = vad l) ∧ wr = w1) (fun v _ => (intOf v).toNat)
  case atStart => exact ⟨n, Nat.le_refl _, rfl, by show _ = _; rw [List.take_of_length_le (by rw [HLN.out]; exact Nat.le_refl _)], rfl⟩
  case round =>
    obtain ⟨m, hm, rfl, hv, rfl⟩ := hrel
    obtain ⟨w1, hw1⟩ : ∃ x, x = wr := ⟨_, rfl⟩
    subst hw1
    by_cases h0 : m = 0
    · subst h0
      have HV0 : Hid (vad l = 0) := by show _ = _; rw [← hv.out]; rfl
      have HD : Hid (digs (vad l) = l.take 0) := by show _ = _; rw [HV0.out, digs_zero]; rfl
      have HLT : Hid ((l.take 0).length = 0) := rfl
      cases s
      · have hba : Below w1.heap.size w1 (w1.alloc (.cells #[] 3)) := (Below.refl _ _).alloc (Nat.le_refl _) _
        have HOWN : Hid ((w1.alloc (.cells #[] 3)).ownsRow w1.heap.size 3 1 (.slice (some ⟨w1.heap.size, 0, none⟩) 0 0) 0 (([] : List Int).map (Value.int .i64))) := World.ownsRow_made (base := w1.heap.size) (e := 3) (size := 1) w1 #[] 0 (Nat.le_refl _) (by unfold maxLen; omega) (by simp)
        have HROW : Hid (RowI (w1.alloc (.cells #[] 3)) A 0 (dI (l.take 0))) := by
          show RowI _ _ _ _
          rw [dI_take]
          exact ((HR.out.take (by omega)).later hba).rowI
        have cZ0 := kZ.cell
        have lZ0 := kZ.lt
        have kZ2 := kZ.later hba
        have cZ := kZ2.cell
        have lZ := kZ2.lt
        have KZ := Lib.hid kZ
        have KR := Lib.hid kR
        have hmc : 0 ≤ c := by omega
        have hmci : ((0 : Nat) : Int) ≤ (c : Int) := by omega
        clear kZ kR kZ2
        go_wp2_with (at_builtin; refine app_ints _ rfl (.tmp 20) (.tmp 24) rfl w1.heap.size (.slice (some ⟨w1.heap.size, 0, none⟩) 0 0) 0 [] rfl HOWN.out A 0 c (dI (l.take 0)) rfl HROW.out (by omega) (by simp) ?_)
        all_goals
          intro v5 w5 hown5 hgr5
          obtain ⟨A5, c5, rfl⟩ := own_slice hown5
          have hb5 : Below w1.heap.size w1 w5 := hba.grown hgr5 (by simp) (fun q hq => by simp [Value.ownBlock] at hq; omega)
          have hlt5 : Hid (∀ g, A5 = some ⟨g, 0, none⟩ → w1.heap.size ≤ g) := fun g hg => (World.ownsRow.lt hown5 g (by rw [hg]; rfl)).1
          have hcap5 : Hid (0 ≤ c5) := by
            show _ ≤ _
            rcases hown5.2 with ⟨h1, _⟩ | ⟨g', cap, cur, h1, _, _, h2, _⟩
            · injection h1; omega
            · injection h1; omega
          have hrow5 : RowH w5 A5 0 (dI (l.take 0)) := by
            have := own_rowH hown5
            (try rw [Nat.zero_add] at this)
            (try rw [List.nil_append] at this)
            exact this
          (try rw [Nat.zero_add])
          have kZ5 := KZ.out.later hb5
          have kR5 := KR.out.later hb5
          have hb6 := hb1.trans (hb5.mono hsz)
          clear hown5 hgr5 cZ lZ cZ0 lZ0
          have kZ6 := kZ5.set_ 1 (.slice A5 0 c5)
          have kZ7 := kZ6.set_ 0 (.bool false)
          have kR7 := (kR5.far (p := ⟨N, 1, none⟩) (show N + 1 ≠ N by omega) (.slice A5 0 c5)).far (p := ⟨N, 0, none⟩) (show N + 1 ≠ N by omega) (.bool false)
          have hrow8 := ((hrow5.far (p := ⟨N, 1, none⟩) (fun g hg => by have := hlt5.out g hg; show g ≠ N; omega) (.slice A5 0 c5)).far (p := ⟨N, 0, none⟩) (fun g hg => by have := hlt5.out g hg; show g ≠ N; omega) (.bool false)).far (p := ⟨N + 1, 0, none⟩) (fun g hg => by have := hlt5.out g hg; show g ≠ N + 1; omega) (.bool false)
          have hrow9 := Lib.hid (hrow8.far (p := ⟨N + 1, 1, none⟩) (fun g hg => by have := hlt5.out g hg; show g ≠ N + 1; omega) (.slice A5 0 c5))
          have HB9 := Lib.hid ((((hb6.setCell (p := ⟨N, 1, none⟩) (Nat.le_refl _) (.slice A5 0 c5)).setCell (p := ⟨N, 0, none⟩) (Nat.le_refl _) (.bool false)).setCell (p := ⟨N + 1, 0, none⟩) (show N ≤ N + 1 by omega) (.bool false)).setCell (p := ⟨N + 1, 1, none⟩) (show N ≤ N + 1 by omega) (.slice A5 0 c5))
          have HK9 := Lib.hid ((kR7.set_ 0 (.bool false)).set_ 1 (.slice A5 0 c5))
          have cZ5 := kZ5.cell
          have fZ5 := kZ5.frozen
          have lZ5 := kZ5.lt
          have cZ6 := kZ6.cell
          have fZ6 := kZ6.frozen
          have cZ7 := kZ7.cell
          have cR7 := kR7.cell
          have fR7 := kR7.frozen
          have lR7 := kR7.lt
          clear hrow5 hrow8 kZ5 kZ6 kZ7 kR5 kR7 hb5 hb6
          go_wp2_with fail
          refine bodyPost_cell (N + 1) 45 #[.bool false, .slice A5 0 c5] (.agg #[.bool false, .slice A5 0 c5]) HK9.out ?_ ⟨.slice A5 0 c5, by rw [HV0.out]; rfl, ⟨A5, c5, by rw [HD.out, HLT.out], by rw [HD.out, HLT.out]; exact hrow9.out, by rw [HD.out, HLT.out]; exact hcap5.out⟩, by rw [HNe.out]; exact HB9.out⟩
          intro W' hW'
          simp [results, Tryz.results53, go_sem, hW']
      · have hba : Below w1.heap.size w1 (w1.alloc (.cells #[] 3)) := (Below.refl _ _).alloc (Nat.le_refl _) _
        have HOWN : Hid ((w1.alloc (.cells #[] 3)).ownsRow w1.heap.size 3 1 (.slice (some ⟨w1.heap.size, 0, none⟩) 0 0) 0 (([] : List Int).map (Value.int .i64))) := World.ownsRow_made (base := w1.heap.size) (e := 3) (size := 1) w1 #[] 0 (Nat.le_refl _) (by unfold maxLen; omega) (by simp)
        have HROW : Hid (RowI (w1.alloc (.cells #[] 3)) A 0 (dI (l.take 0))) := by
          show RowI _ _ _ _
          rw [dI_take]
          exact ((HR.out.take (by omega)).later hba).rowI
        have cZ0 := kZ.cell
        have lZ0 := kZ.lt
        have kZ2 := kZ.later hba
        have cZ := kZ2.cell
        have lZ := kZ2.lt
        have KZ := Lib.hid kZ
        have KR := Lib.hid kR
        have hmc : 0 ≤ c := by omega
        have hmci : ((0 : Nat) : Int) ≤ (c : Int) := by omega
        clear kZ kR kZ2
        go_wp2_with (at_builtin; refine app_ints _ rfl (.tmp 20) (.tmp 24) rfl w1.heap.size (.slice (some ⟨w1.heap.size, 0, none⟩) 0 0) 0 [] rfl HOWN.out A 0 c (dI (l.take 0)) rfl HROW.out (by omega) (by simp) ?_)
        all_goals
          intro v5 w5 hown5 hgr5
          obtain ⟨A5, c5, rfl⟩ := own_slice hown5
          have hb5 : Below w1.heap.size w1 w5 := hba.grown hgr5 (by simp) (fun q hq => by simp [Value.ownBlock] at hq; omega)
          have hlt5 : Hid (∀ g, A5 = some ⟨g, 0, none⟩ → w1.heap.size ≤ g) := fun g hg => (World.ownsRow.lt hown5 g (by rw [hg]; rfl)).1
          have hcap5 : Hid (0 ≤ c5) := by
            show _ ≤ _
            rcases hown5.2 with ⟨h1, _⟩ | ⟨g', cap, cur, h1, _, _, h2, _⟩
            · injection h1; omega
            · injection h1; omega
          have hrow5 : RowH w5 A5 0 (dI (l.take 0)) := by
            have := own_rowH hown5
            (try rw [Nat.zero_add] at this)
            (try rw [List.nil_append] at this)
            exact this
          (try rw [Nat.zero_add])
          have kZ5 := KZ.out.later hb5
          have kR5 := KR.out.later hb5
          have hb6 := hb1.trans (hb5.mono hsz)
          clear hown5 hgr5 cZ lZ cZ0 lZ0
          have kZ6 := kZ5.set_ 1 (.slice A5 0 c5)
          have kZ7 := kZ6.set_ 0 (.bool false)
          have kR7 := (kR5.far (p := ⟨N, 1, none⟩) (show N + 1 ≠ N by omega) (.slice A5 0 c5)).far (p := ⟨N, 0, none⟩) (show N + 1 ≠ N by omega) (.bool false)
          have hrow8 := ((hrow5.far (p := ⟨N, 1, none⟩) (fun g hg => by have := hlt5.out g hg; show g ≠ N; omega) (.slice A5 0 c5)).far (p := ⟨N, 0, none⟩) (fun g hg => by have := hlt5.out g hg; show g ≠ N; omega) (.bool false)).far (p := ⟨N + 1, 0, none⟩) (fun g hg => by have := hlt5.out g hg; show g ≠ N + 1; omega) (.bool false)
          have hrow9 := Lib.hid (hrow8.far (p := ⟨N + 1, 1, none⟩) (fun g hg => by have := hlt5.out g hg; show g ≠ N + 1; omega) (.slice A5 0 c5))
          have HB9 := Lib.hid ((((hb6.setCell (p := ⟨N, 1, none⟩) (Nat.le_refl _) (.slice A5 0 c5)).setCell (p := ⟨N, 0, none⟩) (Nat.le_refl _) (.bool false)).setCell (p := ⟨N + 1, 0, none⟩) (show N ≤ N + 1 by omega) (.bool false)).setCell (p := ⟨N + 1, 1, none⟩) (show N ≤ N + 1 by omega) (.slice A5 0 c5))
          have HK9 := Lib.hid ((kR7.set_ 0 (.bool false)).set_ 1 (.slice A5 0 c5))
          have cZ5 := kZ5.cell
          have fZ5 := kZ5.frozen
          have lZ5 := kZ5.lt
          have cZ6 := kZ6.cell
          have fZ6 := kZ6.frozen
          have cZ7 := kZ7.cell
          have cR7 := kR7.cell
          have fR7 := kR7.frozen
          have lR7 := kR7.lt
          clear hrow5 hrow8 kZ5 kZ6 kZ7 kR5 kR7 hb5 hb6
          go_wp2_with fail
          refine bodyPost_cell (N + 1) 45 #[.bool false, .slice A5 0 c5] (.agg #[.bool false, .slice A5 0 c5]) HK9.out ?_ ⟨.slice A5 0 c5, by rw [HV0.out]; rfl, ⟨A5, c5, by rw [HD.out, HLT.out], by rw [HD.out, HLT.out]; exact hrow9.out, by rw [HD.out, HLT.out]; exact hcap5.out⟩, by rw [HNe.out]; exact HB9.out⟩
          intro W' hW'
          simp [results, Tryz.results53, go_sem, hW']
    · obtain ⟨q, rfl⟩ : ∃ q, m = q + 1 := ⟨m - 1, by omega⟩
      obtain ⟨x, hx⟩ : ∃ x, l[q]? = some x := ⟨_, List.getElem?_eq_getElem (by rw [HLN.out]; omega)⟩
      obtain ⟨g, rfl, hg, hcell⟩ := HR.out.at_ (k := q) (by omega)
      rw [dI_get hx] at hcell
      have HX := Lib.hid hx
      have hqn : (q : Int) < (n : Int) := by omega
      clear h0 hx
      by_cases hx0 : x = 0
      · have HV : Hid (vad (l.take q) = vad l) := by
          show _ = _
          rw [← hv.out, vad_take_succ HX.out, hx0]
          simp
        subst hx0
        have cZ := kZ.cell
        have lZ := kZ.lt
        clear hv
        go_wp2_with fail
        go_roundw
        case rel => exact ⟨q, by omega, by go_num, HV.out, (by first | rfl | trivial)⟩
        case measure => simp [intOf]
      · have hxt : ((x : Int) == 0) = false := by simp; omega
        have hxt' : ¬ x = 0 := hx0
        have HD : Hid (digs (vad l) = l.take (q + 1)) := by
          show _ = _
          rw [← hv.out]
          refine digs_take HL.out (by rw [HLN.out]; exact hm) (.inr ?_)
          rw [Nat.add_sub_cancel, List.getD_eq_getElem?_getD, HX.out]
          exact hx0
        have HLT : Hid ((l.take (q + 1)).length = q + 1) := by show _ = _; rw [List.length_take, HLN.out]; omega
        have HP : Hid (0 < vad l) := by
          show _ < _
          rcases Nat.eq_zero_or_pos (vad l) with h | h
          · have := HD.out
            rw [h, digs_zero] at this
            have h2 := congrArg List.length this
            rw [HLT.out] at h2
            simp at h2
          · exact h
        clear hv hx0
        cases s
        · have hba : Below w1.heap.size w1 (w1.alloc (.cells #[] 3)) := (Below.refl _ _).alloc (Nat.le_refl _) _
          have HOWN : Hid ((w1.alloc (.cells #[] 3)).ownsRow w1.heap.size 3 1 (.slice (some ⟨w1.heap.size, 0, none⟩) 0 0) 0 (([] : List Int).map (Value.int .i64))) := World.ownsRow_made (base := w1.heap.size) (e := 3) (size := 1) w1 #[] 0 (Nat.le_refl _) (by unfold maxLen; omega) (by simp)
          have HROW : Hid (RowI (w1.alloc (.cells #[] 3)) (some ⟨g, 0, none⟩) (q + 1) (dI (l.take (q + 1)))) := by
            show RowI _ _ _ _
            rw [dI_take]
            exact ((HR.out.take (by omega)).later hba).rowI
          have cZ0 := kZ.cell
          have lZ0 := kZ.lt
          have kZ2 := kZ.later hba
          have cZ := kZ2.cell
          have lZ := kZ2.lt
          have KZ := Lib.hid kZ
          have KR := Lib.hid kR
          have hmc : (q + 1) ≤ c := by omega
          have hmci : ((q + 1 : Nat) : Int) ≤ (c : Int) := by omega
          clear kZ kR kZ2
          go_wp2_with (at_builtin; refine app_ints _ rfl (.tmp 20) (.tmp 24) rfl w1.heap.size (.slice (some ⟨w1.heap.size, 0, none⟩) 0 0) 0 [] rfl HOWN.out (some ⟨g, 0, none⟩) (q + 1) c (dI (l.take (q + 1))) rfl HROW.out (by omega) (by simp) ?_)
          all_goals
            intro v5 w5 hown5 hgr5
            obtain ⟨A5, c5, rfl⟩ := own_slice hown5
            have hb5 : Below w1.heap.size w1 w5 := hba.grown hgr5 (by simp) (fun q hq => by simp [Value.ownBlock] at hq; omega)
            have hlt5 : Hid (∀ g, A5 = some ⟨g, 0, none⟩ → w1.heap.size ≤ g) := fun g hg => (World.ownsRow.lt hown5 g (by rw [hg]; rfl)).1
            have hcap5 : Hid ((q + 1) ≤ c5) := by
              show _ ≤ _
              rcases hown5.2 with ⟨h1, _⟩ | ⟨g', cap, cur, h1, _, _, h2, _⟩
              · injection h1; omega
              · injection h1; omega
            have hrow5 : RowH w5 A5 (q + 1) (dI (l.take (q + 1))) := by
              have := own_rowH hown5
              (try rw [Nat.zero_add] at this)
              (try rw [List.nil_append] at this)
              exact this
            (try rw [Nat.zero_add])
            have kZ5 := KZ.out.later hb5
            have kR5 := KR.out.later hb5
            have hb6 := hb1.trans (hb5.mono hsz)
            clear hown5 hgr5 cZ lZ cZ0 lZ0
            have kZ6 := kZ5.set_ 1 (.slice A5 (q + 1) c5)
            have kZ7 := kZ6.set_ 0 (.bool false)
            have kR7 := (kR5.far (p := ⟨N, 1, none⟩) (show N + 1 ≠ N by omega) (.slice A5 (q + 1) c5)).far (p := ⟨N, 0, none⟩) (show N + 1 ≠ N by omega) (.bool false)
            have hrow8 := ((hrow5.far (p := ⟨N, 1, none⟩) (fun g hg => by have := hlt5.out g hg; show g ≠ N; omega) (.slice A5 (q + 1) c5)).far (p := ⟨N, 0, none⟩) (fun g hg => by have := hlt5.out g hg; show g ≠ N; omega) (.bool false)).far (p := ⟨N + 1, 0, none⟩) (fun g hg => by have := hlt5.out g hg; show g ≠ N + 1; omega) (.bool false)
            have hrow9 := Lib.hid (hrow8.far (p := ⟨N + 1, 1, none⟩) (fun g hg => by have := hlt5.out g hg; show g ≠ N + 1; omega) (.slice A5 (q + 1) c5))
            have HB9 := Lib.hid ((((hb6.setCell (p := ⟨N, 1, none⟩) (Nat.le_refl _) (.slice A5 (q + 1) c5)).setCell (p := ⟨N, 0, none⟩) (Nat.le_refl _) (.bool false)).setCell (p := ⟨N + 1, 0, none⟩) (show N ≤ N + 1 by omega) (.bool false)).setCell (p := ⟨N + 1, 1, none⟩) (show N ≤ N + 1 by omega) (.slice A5 (q + 1) c5))
            have HK9 := Lib.hid ((kR7.set_ 0 (.bool false)).set_ 1 (.slice A5 (q + 1) c5))
            have cZ5 := kZ5.cell
            have fZ5 := kZ5.frozen
            have lZ5 := kZ5.lt
            have cZ6 := kZ6.cell
            have fZ6 := kZ6.frozen
            have cZ7 := kZ7.cell
            have cR7 := kR7.cell
            have fR7 := kR7.frozen
            have lR7 := kR7.lt
            clear hrow5 hrow8 kZ5 kZ6 kZ7 kR5 kR7 hb5 hb6
            go_wp2_with fail
            refine bodyPost_cell (N + 1) 45 #[.bool false, .slice A5 (q + 1) c5] (.agg #[.bool false, .slice A5 (q + 1) c5]) HK9.out ?_ ⟨.slice A5 (q + 1) c5, by rfl, ⟨A5, c5, by rw [HD.out, HLT.out], by rw [HD.out, HLT.out]; exact hrow9.out, by rw [HD.out, HLT.out]; exact hcap5.out⟩, by rw [HNe.out]; exact HB9.out⟩
            intro W' hW'
            simp [results, Tryz.results53, go_sem, hW']
        · have hba : Below w1.heap.size w1 (w1.alloc (.cells #[] 3)) := (Below.refl _ _).alloc (Nat.le_refl _) _
          have HOWN : Hid ((w1.alloc (.cells #[] 3)).ownsRow w1.heap.size 3 1 (.slice (some ⟨w1.heap.size, 0, none⟩) 0 0) 0 (([] : List Int).map (Value.int .i64))) := World.ownsRow_made (base := w1.heap.size) (e := 3) (size := 1) w1 #[] 0 (Nat.le_refl _) (by unfold maxLen; omega) (by simp)
          have HROW : Hid (RowI (w1.alloc (.cells #[] 3)) (some ⟨g, 0, none⟩) (q + 1) (dI (l.take (q + 1)))) := by
            show RowI _ _ _ _
            rw [dI_take]
            exact ((HR.out.take (by omega)).later hba).rowI
          have cZ0 := kZ.cell
          have lZ0 := kZ.lt
          have kZ2 := kZ.later hba
          have cZ := kZ2.cell
          have lZ := kZ2.lt
          have KZ := Lib.hid kZ
          have KR := Lib.hid kR
          have hmc : (q + 1) ≤ c := by omega
          have hmci : ((q + 1 : Nat) : Int) ≤ (c : Int) := by omega
          clear kZ kR kZ2
          go_wp2_with (at_builtin; refine app_ints _ rfl (.tmp 20) (.tmp 24) rfl w1.heap.size (.slice (some ⟨w1.heap.size, 0, none⟩) 0 0) 0 [] rfl HOWN.out (some ⟨g, 0, none⟩) (q + 1) c (dI (l.take (q + 1))) rfl HROW.out (by omega) (by simp) ?_)
          all_goals
            intro v5 w5 hown5 hgr5
            obtain ⟨A5, c5, rfl⟩ := own_slice hown5
            have hb5 : Below w1.heap.size w1 w5 := hba.grown hgr5 (by simp) (fun q hq => by simp [Value.ownBlock] at hq; omega)
            have hlt5 : Hid (∀ g, A5 = some ⟨g, 0, none⟩ → w1.heap.size ≤ g) := fun g hg => (World.ownsRow.lt hown5 g (by rw [hg]; rfl)).1
            have hcap5 : Hid ((q + 1) ≤ c5) := by
              show _ ≤ _
              rcases hown5.2 with ⟨h1, _⟩ | ⟨g', cap, cur, h1, _, _, h2, _⟩
              · injection h1; omega
              · injection h1; omega
            have hrow5 : RowH w5 A5 (q + 1) (dI (l.take (q + 1))) := by
              have := own_rowH hown5
              (try rw [Nat.zero_add] at this)
              (try rw [List.nil_append] at this)
              exact this
            (try rw [Nat.zero_add])
            have kZ5 := KZ.out.later hb5
            have kR5 := KR.out.later hb5
            have hb6 := hb1.trans (hb5.mono hsz)
            clear hown5 hgr5 cZ lZ cZ0 lZ0
            have kZ6 := kZ5.set_ 1 (.slice A5 (q + 1) c5)
            have kZ7 := kZ6.set_ 0 (.bool true)
            have kR7 := (kR5.far (p := ⟨N, 1, none⟩) (show N + 1 ≠ N by omega) (.slice A5 (q + 1) c5)).far (p := ⟨N, 0, none⟩) (show N + 1 ≠ N by omega) (.bool true)
            have hrow8 := ((hrow5.far (p := ⟨N, 1, none⟩) (fun g hg => by have := hlt5.out g hg; show g ≠ N; omega) (.slice A5 (q + 1) c5)).far (p := ⟨N, 0, none⟩) (fun g hg => by have := hlt5.out g hg; show g ≠ N; omega) (.bool true)).far (p := ⟨N + 1, 0, none⟩) (fun g hg => by have := hlt5.out g hg; show g ≠ N + 1; omega) (.bool true)
            have hrow9 := Lib.hid (hrow8.far (p := ⟨N + 1, 1, none⟩) (fun g hg => by have := hlt5.out g hg; show g ≠ N + 1; omega) (.slice A5 (q + 1) c5))
            have HB9 := Lib.hid ((((hb6.setCell (p := ⟨N, 1, none⟩) (Nat.le_refl _) (.slice A5 (q + 1) c5)).setCell (p := ⟨N, 0, none⟩) (Nat.le_refl _) (.bool true)).setCell (p := ⟨N + 1, 0, none⟩) (show N ≤ N + 1 by omega) (.bool true)).setCell (p := ⟨N + 1, 1, none⟩) (show N ≤ N + 1 by omega) (.slice A5 (q + 1) c5))
            have HK9 := Lib.hid ((kR7.set_ 0 (.bool true)).set_ 1 (.slice A5 (q + 1) c5))
            have cZ5 := kZ5.cell
            have fZ5 := kZ5.frozen
            have lZ5 := kZ5.lt
            have cZ6 := kZ6.cell
            have fZ6 := kZ6.frozen
            have cZ7 := kZ7.cell
            have cR7 := kR7.cell
            have fR7 := kR7.frozen
            have lR7 := kR7.lt
            clear hrow5 hrow8 kZ5 kZ6 kZ7 kR5 kR7 hb5 hb6
            go_wp2_with fail
            refine bodyPost_cell (N + 1) 45 #[.bool true, .slice A5 (q + 1) c5] (.agg #[.bool true, .slice A5 (q + 1) c5]) HK9.out ?_ ⟨.slice A5 (q + 1) c5, by simp [HP.out], ⟨A5, c5, by rw [HD.out, HLT.out], by rw [HD.out, HLT.out]; exact hrow9.out, by rw [HD.out, HLT.out]; exact hcap5.out⟩, by rw [HNe.out]; exact HB9.out⟩
            intro W' hW'
            simp [results, Tryz.results53, go_sem, hW']
end Go.Proofs.YtpklcjbdmikbdaaGreat
namespace Go.Proofs.YtpklcjbdmikbdaaGreat
set_option maxRecDepth 100000
open Go.RowKit

theorem digs_le : ∀ (j k : Nat), k < 10000 ^ j → (digs k).length ≤ j
  | 0, k, h => by
    have : k = 0 := by simpa using h
    subst this
    rw [digs_zero]
    simp
  | j + 1, k, h => by
    rcases Nat.eq_zero_or_pos k with rfl | h0
    · rw [digs_zero]; simp
    · rw [digs_pos h0]
      have := digs_le j (k / 10000) (Nat.div_lt_of_lt_mul (by rw [Nat.pow_succ, Nat.mul_comm] at h; exact h))
      simpa using this
set_option maxHeartbeats 16000000 in
theorem int_any (v : Nat) (w : World) (hv : v < 9223372036854775808) : Calls Tryz.prog 19 #[.int .i64 (v : Int)] w (ZR w false v) := by
  have HD5 : Hid ((digs v).length ≤ 5) := digs_le 5 v (by omega)
  have HD0 : Hid (digs v = [] ++ digs v) := rfl
  have e1 : (w.alloc (.cells #[.bool false, .slice none 0 0] 45)).heap.size = w.heap.size + 1 := by simp
  have kR := (Blk.new w 45 #[.bool false, .slice none 0 0]).alloc (.cells #[.bool false, .slice none 0 0] 45)
  have kZ := Blk.new (w.alloc (.cells #[.bool false, .slice none 0 0] 45)) 45 #[.bool false, .slice none 0 0]
  rw [e1] at kZ
  have hb1 : Below w.heap.size w ((w.alloc (.cells #[.bool false, .slice none 0 0] 45)).alloc (.cells #[.bool false, .slice none 0 0] 45)) := ((Below.refl _ _).alloc (Nat.le_refl _) _).alloc (by simp) _
  have hsz : ((w.alloc (.cells #[.bool false, .slice none 0 0] 45)).alloc (.cells #[.bool false, .slice none 0 0] 45)).heap.size = w.heap.size + 2 := by simp
  have hd0 : decide ((v : Int) < 0) = false := by simp
  clear e1
  go_enter Tryz.func19, Tryz.ntmps19
  go_upto_region 2 with fail
  revert kZ kR hb1 hsz
  generalize (w.alloc (.cells #[.bool false, .slice none 0 0] 45)).alloc (.cells #[.bool false, .slice none 0 0] 45) = w1
  generalize hNe : w.heap.size = N
  intro kR kZ hb1 hsz
  have HNe := Lib.hid hNe
  clear hNe hd0
  go_wp2_with fail
  go_loopw [0] (fun t0 wr => ∃ (x : Nat) (pre : List Nat) (pl : Nat) (sv : Value), t0 = .int .i64 (x : Int) ∧ x ≤ v ∧ Hid (digs v = pre ++ digs x) ∧ Hid (pre.length = pl) ∧ wr.ownsRow (N + 2) 3 1 sv pl ((dI pre).map (Value.int .i64)) ∧ Blk wr N 45 #[.bool false, .slice none 0 0] ∧ Blk wr (N + 1) 45 #[.bool false, sv] ∧ Below N w wr) (fun t0 _ => (intOf t0).toNat)
  case atStart => exact ⟨v, [], 0, .slice none 0 0, rfl, Nat.le_refl _, HD0.out, rfl, World.ownsRow_nil _ _ _ _, kR, kZ, hb1⟩
  case round =>
    clear kR kZ hb1 hsz HD0
    obtain ⟨x, pre, pl, sv, rfl, hxv, hdg, HPL, hown, kR, kZ, hb⟩ := hrel
    obtain ⟨wq, hwq⟩ : ∃ x, x = wr := ⟨_, rfl⟩
    subst hwq
    have lZ := kZ.lt
    obtain ⟨A3, c3, rfl⟩ := own_slice hown
    rcases Nat.eq_zero_or_pos x with h0 | h0
    · subst h0
      have HE : Hid (digs v = pre) := by show _ = _; rw [hdg.out, digs_zero, List.append_nil]
      have hrow := own_rowH hown
      have hcap : Hid (pl ≤ c3) := by
        show _ ≤ _
        rcases hown.2 with ⟨h1, _⟩ | ⟨g', cap, cur, h1, _, _, h2, _⟩
        · injection h1; omega
        · injection h1; omega
      have hlt := fun g (hg : A3 = some ⟨g, 0, none⟩) => (World.ownsRow.lt hown g (by rw [hg]; rfl)).1
      have hrow8 := Lib.hid ((hrow.far (p := ⟨N, 0, none⟩) (fun g hg => by have := hlt g hg; show g ≠ N; omega) (.bool false)).far (p := ⟨N, 1, none⟩) (fun g hg => by have := hlt g hg; show g ≠ N; omega) (.slice A3 pl c3))
      have HK9 := Lib.hid ((kR.set_ 0 (.bool false)).set_ 1 (.slice A3 pl c3))
      have HB9 := Lib.hid ((hb.setCell (p := ⟨N, 0, none⟩) (Nat.le_refl _) (.bool false)).setCell (p := ⟨N, 1, none⟩) (Nat.le_refl _) (.slice A3 pl c3))
      have cZ := kZ.cell
      have cR := kR.cell
      have fR := kR.frozen
      have lR := kR.lt
      have HV : Hid (Value.agg #[.bool false, .slice A3 pl c3] = .agg #[.bool (false && decide (0 < v)), .slice A3 pl c3]) := rfl
      clear hown hrow hlt kR kZ hb hdg
      go_wp2_with fail
      refine bodyPost_cell N 45 #[.bool false, .slice A3 pl c3] (.agg #[.bool false, .slice A3 pl c3]) HK9.out ?_ ⟨.slice A3 pl c3, by rw [HV.out], ⟨A3, c3, by rw [HE.out, HPL.out], by rw [HE.out, HPL.out]; exact hrow8.out, by rw [HE.out, HPL.out]; exact hcap.out⟩, by rw [HNe.out]; exact HB9.out⟩
      intro W' hW'
      simp [results, Tryz.results19, go_sem, hW']
    · obtain ⟨d, hd⟩ : ∃ d, x % 10000 = d := ⟨_, rfl⟩
      obtain ⟨y, hy⟩ : ∃ y, x / 10000 = y := ⟨_, rfl⟩
      have htm : Int.tmod (x : Int) 10000 = (d : Int) := by rw [Int.tmod_eq_emod_of_nonneg (by omega)]; omega
      have htd : Int.tdiv (x : Int) 10000 = (y : Int) := by rw [Int.tdiv_eq_ediv_of_nonneg (by omega)]; omega
      have hyx : y < x := by omega
      have hd4 : d < 10000 := by omega
      have HDG : Hid (digs v = (pre ++ [d]) ++ digs y) := by
        show _ = _
        rw [hdg.out, digs_pos h0, hd, hy, List.append_assoc]
        rfl
      have hpl : pl ≤ 5 := by
        have := HD5.out
        rw [hdg.out, List.length_append, HPL.out] at this
        omega
      have hx0 : ((x : Int) != 0) = true := by simp; omega
      have hx0' : ¬ x = 0 := by omega
      have hdz : decide ((d : Int) < 0) = false := by simp
      have hxi : (x : Int) < 9223372036854775808 := by omega
      have hba : Below wq.heap.size wq (wq.alloc (.cells #[.int .i64 (d : Int)] 3)) := (Below.refl _ _).alloc (Nat.le_refl _) _
      have HOWN := Lib.hid (own_later hown hba)
      have HROW : Hid (RowI (wq.alloc (.cells #[.int .i64 (d : Int)] 3)) (some ⟨wq.heap.size, 0, none⟩) 1 [(d : Int)]) := (RowH.of_row (RowB.of (l := [(d : Int)]) (by simpa [rowc] using Blk.new wq 3 #[.int .i64 (d : Int)])) rfl).rowI
      have kR2 := Lib.hid (kR.later hba)
      have kZ2 := Lib.hid (kZ.later hba)
      have HB2 := Lib.hid (hb.trans (hba.mono (by have := hb.size; rw [HNe.out] at this; exact this)))
      have hsq : N + 2 ≤ wq.heap.size := lZ
      have HSQ : Hid (N + 2 ≤ (wq.alloc (.cells #[.int .i64 (d : Int)] 3)).heap.size) := by show _ ≤ _; simp; omega
      have cZ := kZ.cell
      have fZ := kZ.frozen
      have KZ := Lib.hid kZ
      clear hd hy hown hba kR kZ hb hdg h0 KZ
      go_wp2_with (at_builtin; refine app_ints _ rfl (.tmp 17) (.tmp 19) rfl (N + 2) (.slice A3 pl c3) pl (dI pre) rfl HOWN.out (some ⟨wq.heap.size, 0, none⟩) 1 1 [(d : Int)] rfl HROW.out (by omega) HSQ.out ?_)
      all_goals
        intro v5 w5 hown5 hgr5
        have hne : ∀ q, (Value.slice A3 pl c3).ownBlock = some q → N + 2 ≤ q := fun q hq => (World.ownsRow.lt HOWN.out q hq).1
        have kR5 := kR2.out.grown hgr5 (fun e => by have := hne _ e.symm; omega)
        have kZ5 := kZ2.out.grown hgr5 (fun e => by have := hne _ e.symm; omega)
        have hb5 : Below N w w5 := HB2.out.grown hgr5 (by have := HSQ.out; omega) (fun q hq => by have := hne q hq; omega)
        have hown6 : w5.ownsRow (N + 2) 3 1 v5 (pl + 1) ((dI (pre ++ [d])).map (Value.int .i64)) := by
          rw [dI_app, List.map_append]
          exact hown5
        have cZ5 := kZ5.cell
        have fZ5 := kZ5.frozen
        have lZ5 := kZ5.lt
        have HK := Lib.hid (kZ5.set_ 1 v5)
        have HKR := Lib.hid (kR5.far (p := ⟨N + 1, 1, none⟩) (show N ≠ N + 1 by omega) v5)
        have HB := Lib.hid (hb5.setCell (p := ⟨N + 1, 1, none⟩) (show N ≤ N + 1 by omega) v5)
        have HO := Lib.hid (hown6.kept (only_setCell (World.grownBy.refl w5 (some (N + 1))) (p := ⟨N + 1, 1, none⟩) (.inl rfl) v5) (.inr (fun e => by have := (World.ownsRow.lt hown6 _ e).1; omega)))
        obtain ⟨A6, c6, rfl⟩ := own_slice hown6
        have HPL2 : Hid ((pre ++ [d]).length = pl + 1) := by show _ = _; rw [List.length_append, HPL.out]; rfl
        clear hown5 hgr5 hown6 kR5 kZ5 hb5 hne cZ fZ HOWN
        go_wp2_with fail
        go_roundw
        case rel => exact ⟨y, pre ++ [d], pl + 1, _, rfl, by omega, HDG.out, HPL2.out, HO.out, HKR.out, HK.out, HB.out⟩
        case measure => simp [intOf]; omega
/-- Comparing. -/
def cmpN (a b : Nat) : Int := if a < b then -1 else if b < a then 1 else 0
set_option maxHeartbeats 16000000 in
theorem sizes_any (va vb : Value) (a b : Nat) (w : World) (ha : MagD w va a) (hb : MagD w vb b) (la : (digs a).length ≤ 1000) (lb : (digs b).length ≤ 1000) : Calls Tryz.prog 70 #[va, vb] w fun e w' => e = .returned (.int .i64 (cmpN a b)) ∧ Below w.heap.size w w' := by
  obtain ⟨A, c, rfl, rA, _⟩ := ha
  obtain ⟨B, d, rfl, rB, _⟩ := hb
  have HA : Hid (vad (digs a) = a) := vad_digs a
  have HB : Hid (vad (digs b) = b) := vad_digs b
  have HDA : Hid (Digit (digs a)) := digs_digit a
  have HDB : Hid (Digit (digs b)) := digs_digit b
  have HLL : Hid ((digs a).length < (digs b).length → a < b) := digs_len_lt
  have HLR : Hid ((digs b).length < (digs a).length → b < a) := digs_len_lt
  generalize digs a = p at *
  generalize digs b = q at *
  have HRA := Lib.hid rA
  have HRB := Lib.hid rB
  obtain ⟨n, hn⟩ : ∃ n, p.length = n := ⟨_, rfl⟩
  obtain ⟨m, hm⟩ : ∃ m, q.length = m := ⟨_, rfl⟩
  have HN := Lib.hid hn
  have HM := Lib.hid hm
  rw [hn] at HRA la HLL HLR ⊢
  rw [hm] at HRB lb HLL HLR ⊢
  clear rA rB hn hm
  by_cases hnm : n = m
  · subst hnm
    have hne : ((n : Int) != (n : Int)) = false := by simp
    go_enter Tryz.func70, Tryz.ntmps70
    go_wp2_with fail
    go_loopw [5] (fun t5 wr => ∃ k : Nat, k ≤ n ∧ t5 = .int .i64 ((k : Int) - 1) ∧ Hid (p.drop k = q.drop k) ∧ Below w.heap.size w wr) (fun t5 _ => (intOf t5 + 1).toNat)
    case atStart => exact ⟨n, Nat.le_refl _, by go_num, by show _ = _; rw [List.drop_of_length_le (by rw [HN.out]; exact Nat.le_refl _), List.drop_of_length_le (by rw [HM.out]; exact Nat.le_refl _)], Below.refl _ _⟩
    case round =>
      obtain ⟨k, hk, rfl, hdr, hb⟩ := hrel
      rcases k with _ | j
      · have HE : Hid (cmpN a b = 0) := by
          show _ = _
          have h1 := hdr.out
          rw [List.drop_zero, List.drop_zero] at h1
          have h2 : a = b := by rw [← HA.out, ← HB.out, h1]
          unfold cmpN
          rw [if_neg (by omega), if_neg (by omega)]
        clear hdr
        go_wp2_with fail
        go_ret
        exact ⟨by rw [HE.out] <;> rfl, hb⟩
      · obtain ⟨x, hx⟩ : ∃ x, p[j]? = some x := ⟨_, List.getElem?_eq_getElem (by rw [HN.out]; omega)⟩
        obtain ⟨y, hy⟩ : ∃ y, q[j]? = some y := ⟨_, List.getElem?_eq_getElem (by rw [HM.out]; omega)⟩
        obtain ⟨g1, rfl, hg1, c1⟩ := (HRA.out.later hb).at_ (k := j) (by omega)
        obtain ⟨g2, rfl, hg2, c2⟩ := (HRB.out.later hb).at_ (k := j) (by omega)
        rw [dI_get hx] at c1
        rw [dI_get hy] at c2
        have HX := Lib.hid hx
        have HY := Lib.hid hy
        have hjn : (j : Int) < (n : Int) := by omega
        have hj0 : ¬ (j : Int) < 0 := by omega
        clear hx hy
        rcases Nat.lt_trichotomy x y with hxy | hxy | hxy
        · have d1 : decide ((x : Int) < (y : Int)) = true := decide_eq_true (by omega)
          have d1' : decide (x < y) = true := decide_eq_true hxy
          have HE : Hid (cmpN a b = -1) := by
            show _ = _
            have h2 : a < b := by rw [← HA.out, ← HB.out]; exact vad_less HDA.out (by rw [HN.out, HM.out]) HX.out HY.out hdr.out hxy
            unfold cmpN
            rw [if_pos h2]
          clear hdr hxy
          go_wp2_with fail
          go_region
          go_wp2_with fail
          go_ret
          exact ⟨by rw [HE.out] <;> rfl, hb.drew⟩
        · subst hxy
          have d1 : decide ((x : Int) < (x : Int)) = false := by simp
          have d2 : decide ((x : Int) > (x : Int)) = false := by simp
          have HD : Hid (p.drop j = q.drop j) := by
            show _ = _
            have e1 := (List.getElem?_eq_some_iff.1 HX.out)
            have e2 := (List.getElem?_eq_some_iff.1 HY.out)
            obtain ⟨f1, g1⟩ := e1
            obtain ⟨f2, g2⟩ := e2
            rw [List.drop_eq_getElem_cons f1, List.drop_eq_getElem_cons f2, g1, g2, hdr.out]
          clear hdr
          go_wp2_with fail
          go_region
          go_wp2_with fail
          go_region
          go_wp2_with fail
          go_roundw
          case rel => exact ⟨j, by omega, by go_num, HD.out, hb.drew.drew⟩
          case measure => simp [intOf] <;> omega
        · have d1 : decide ((x : Int) < (y : Int)) = false := decide_eq_false (by omega)
          have d1' : decide (x < y) = false := decide_eq_false (by omega)
          have d2 : decide ((x : Int) > (y : Int)) = true := decide_eq_true (by omega)
          have d2' : decide (y < x) = true := decide_eq_true hxy
          have HE : Hid (cmpN a b = 1) := by
            show _ = _
            have h2 : b < a := by rw [← HA.out, ← HB.out]; exact vad_less HDB.out (by rw [HN.out, HM.out]) HY.out HX.out hdr.out.symm hxy
            unfold cmpN
            rw [if_neg (by omega), if_pos h2]
          clear hdr hxy
          go_wp2_with fail
          go_region
          go_wp2_with fail
          go_region
          go_wp2_with fail
          go_ret
          exact ⟨by rw [HE.out] <;> rfl, hb.drew.drew⟩
  · have hne : ((n : Int) != (m : Int)) = true := by simp; omega
    have hne' : ¬ n = m := hnm
    rcases Nat.lt_or_gt_of_ne hnm with h | h
    · have d1 : decide ((n : Int) < (m : Int)) = true := decide_eq_true (by omega)
      have d1' : decide (n < m) = true := decide_eq_true h
      have HE : Hid (cmpN a b = -1) := by
        show _ = _
        unfold cmpN
        rw [if_pos (HLL.out h)]
      clear h hnm
      go_enter Tryz.func70, Tryz.ntmps70
      go_wp2_with fail
      go_ret
      exact ⟨by rw [HE.out] <;> rfl, Below.refl _ _⟩
    · have d1 : decide ((n : Int) < (m : Int)) = false := decide_eq_false (by omega)
      have d1' : decide (n < m) = false := decide_eq_false (by omega)
      have HE : Hid (cmpN a b = 1) := by
        show _ = _
        have := HLR.out h
        unfold cmpN
        rw [if_neg (by omega), if_pos this]
      clear h hnm
      go_enter Tryz.func70, Tryz.ntmps70
      go_wp2_with fail
      go_ret
      exact ⟨by rw [HE.out] <;> rfl, Below.refl _ _⟩
end Go.Proofs.YtpklcjbdmikbdaaGreat
namespace Go.Proofs.YtpklcjbdmikbdaaGreat
set_option maxRecDepth 100000
open Go.RowKit

theorem less_step {B x y z bw bw' : Nat} {o qs ps : Nat} (h : o + qs = ps + bw * B) (e : z + y + bw = x + 10000 * bw') : o + B * z + (qs + B * y) = ps + B * x + bw' * (B * 10000) := by
  have h1 : B * (z + y + bw) = B * (x + 10000 * bw') := by rw [e]
  rw [Nat.mul_add, Nat.mul_add, Nat.mul_add] at h1
  have h2 : B * (10000 * bw') = bw' * (B * 10000) := by
    rw [Nat.mul_comm bw', Nat.mul_assoc]
  have h3 : B * bw = bw * B := Nat.mul_comm _ _
  omega
/-- What is returned: a row of digits. -/
def RowD (w : World) (k : Nat) (e : Ending) (w' : World) : Prop := ∃ A n c o, e = .returned (.slice A n c) ∧ RowH w' A n (dI o) ∧ Digit o ∧ o.length = n ∧ vad o = k ∧ n ≤ c ∧ n ≤ 1000 ∧ Below w.heap.size w w'
set_option maxHeartbeats 16000000 in
theorem less_any (va vb : Value) (a b : Nat) (w : World) (ha : MagD w va a) (hb : MagD w vb b) (la : (digs a).length ≤ 1000) (hba : b ≤ a) : Calls Tryz.prog 87 #[va, vb] w (RowD w (a - b)) := by
  have hlb : (digs b).length ≤ (digs a).length := by
    rcases Nat.lt_or_ge (digs a).length (digs b).length with h | h
    · have := digs_len_lt h; omega
    · exact h
  obtain ⟨A, c, rfl, rA, _⟩ := ha
  obtain ⟨B, d, rfl, rB, _⟩ := hb
  have HA : Hid (vad (digs a) = a) := vad_digs a
  have HB : Hid (vad (digs b) = b) := vad_digs b
  have HDA : Hid (Digit (digs a)) := digs_digit a
  have HDB : Hid (Digit (digs b)) := digs_digit b
  generalize digs a = p at *
  generalize digs b = q at *
  obtain ⟨n, hn⟩ : ∃ n, p.length = n := ⟨_, rfl⟩
  obtain ⟨m, hm⟩ : ∃ m, q.length = m := ⟨_, rfl⟩
  have HN := Lib.hid hn
  have HM := Lib.hid hm
  rw [hn] at rA la hlb ⊢
  rw [hm] at rB hlb ⊢
  have HRA := Lib.hid rA
  have HRB := Lib.hid rB
  have HBA := Lib.hid hba
  have HM0 : Hid ((w.alloc (.cells #[] 3)).ownsRow w.heap.size 3 1 (.slice (some ⟨w.heap.size, 0, none⟩) 0 0) 0 ((dI []).map (Value.int .i64))) := World.ownsRow_made (base := w.heap.size) (e := 3) (size := 1) w #[] 0 (Nat.le_refl _) (by unfold maxLen; omega) (by simp)
  have HB0 : Hid (Below w.heap.size w (w.alloc (.cells #[] 3))) := (Below.refl _ _).alloc (Nat.le_refl _) _
  clear rA rB hn hm hba
  go_enter Tryz.func87, Tryz.ntmps87
  go_upto_region 2 with fail
  revert HM0 HB0
  generalize w.alloc (.cells #[] 3) = w1
  generalize hNe : w.heap.size = N
  intro HM0 HB0
  have HNe := Lib.hid hNe
  clear hNe
  go_wp2_with fail
  go_loopw [5, 6, 7] (fun ov bv iv wr => ∃ (k : Nat) (o : List Nat) (bw : Nat), k ≤ n ∧ bw ≤ 1 ∧ iv = .int .i64 (k : Int) ∧ bv = .int .i64 (bw : Int) ∧ wr.ownsRow N 3 1 ov k ((dI o).map (Value.int .i64)) ∧ Hid (o.length = k ∧ Digit o ∧ vad o + vad (q.take k) = vad (p.take k) + bw * 10000 ^ k) ∧ Below N w wr) (fun _ _ iv _ => n - (intOf iv).toNat)
  case atStart => exact ⟨0, [], 0, Nat.zero_le _, by omega, rfl, rfl, HM0.out, ⟨rfl, (fun _ h => by cases h), by simp [vad]⟩, HB0.out⟩
  case round =>
    clear HM0 HB0
    obtain ⟨k, o, bw, hk, hbw, rfl, rfl, hown, hinv, hbl⟩ := hrel
    obtain ⟨wq, hwq⟩ : ∃ x, x = wr := ⟨_, rfl⟩
    subst hwq
    obtain ⟨A3, c3, rfl⟩ := own_slice hown
    have hbl2 : Below w.heap.size w wq := by rw [HNe.out]; exact hbl
    by_cases hlt : k < n
    · have hd : decide ((k : Int) < (n : Int)) = true := decide_eq_true (by omega)
      have hd' : decide (k < n) = true := decide_eq_true hlt
      have hkni : (k : Int) < (n : Int) := by omega
      obtain ⟨x, hx⟩ : ∃ x, p[k]? = some x := ⟨_, List.getElem?_eq_getElem (by rw [HN.out]; omega)⟩
      obtain ⟨g1, rfl, hg1, c1⟩ := (HRA.out.later hbl2).at_ (k := k) hlt
      rw [dI_get hx] at c1
      have hx4 : x < 10000 := HDA.out x (List.mem_of_getElem? hx)
      have HX := Lib.hid hx
      clear hx
      by_cases hkm : k < m
      · have hm1 : decide ((k : Int) < (m : Int)) = true := decide_eq_true (by omega)
        have hm1' : decide (k < m) = true := decide_eq_true hkm
        have hkmi : (k : Int) < (m : Int) := by omega
        obtain ⟨y, hy⟩ : ∃ y, q[k]? = some y := ⟨_, List.getElem?_eq_getElem (by rw [HM.out]; omega)⟩
        obtain ⟨g2, rfl, hg2, c2⟩ := (HRB.out.later hbl2).at_ (k := k) hkm
        rw [dI_get hy] at c2
        have hy4 : y < 10000 := HDB.out y (List.mem_of_getElem? hy)
        have HTQ : Hid (vad (q.take (k + 1)) = vad (q.take k) + 10000 ^ k * y) := vad_take_succ hy
        clear hy
        by_cases hneg : (x : Int) - (bw : Int) - (y : Int) < 0
        · obtain ⟨z, hz⟩ : ∃ z : Nat, (z : Int) = (x : Int) - (bw : Int) - (y : Int) + 10000 := ⟨((x : Int) - (bw : Int) - (y : Int) + 10000).toNat, by omega⟩
          have hz4 : z < 10000 := by omega
          have hzi : (x : Int) - (bw : Int) - (y : Int) + 10000 = (z : Int) := hz.symm
          have HINV : Hid ((o ++ [z]).length = k + 1 ∧ Digit (o ++ [z]) ∧ vad (o ++ [z]) + vad (q.take (k + 1)) = vad (p.take (k + 1)) + 1 * 10000 ^ (k + 1)) := by
            obtain ⟨h1, h2, h3⟩ := hinv.out
            refine ⟨by rw [List.length_append, h1]; rfl, fun t ht => ?_, ?_⟩
            · rcases List.mem_append.1 ht with ht | ht
              · exact h2 t ht
              · rw [List.mem_singleton] at ht
                rw [ht]; exact hz4
            · rw [vad_append, h1, HTQ.out, vad_take_succ HX.out, Nat.pow_succ]
              have := less_step (x := x) (y := y) (z := z) (bw' := 1) h3 (by omega)
              simpa [vad] using this
          have hdn : decide ((x : Int) - (bw : Int) - (y : Int) < 0) = true := decide_eq_true hneg
          obtain ⟨s0, hs0⟩ : ∃ s : Int, (x : Int) - (bw : Int) - (y : Int) = s := ⟨_, rfl⟩
          have hs0b : -10001 ≤ s0 := by omega
          have hs0c : s0 ≤ 10000 := by omega
          have hsz : s0 + 10000 = (z : Int) := by omega
          rw [hs0] at hdn hneg
          clear hz hzi
          have hba : Below wq.heap.size wq (wq.alloc (.cells #[.int .i64 (z : Int)] 3)) := (Below.refl _ _).alloc (Nat.le_refl _) _
          have HOWN := Lib.hid (own_later hown hba)
          have HROW : Hid (RowI (wq.alloc (.cells #[.int .i64 (z : Int)] 3)) (some ⟨wq.heap.size, 0, none⟩) 1 [(z : Int)]) := (RowH.of_row (RowB.of (l := [(z : Int)]) (by simpa [rowc] using Blk.new wq 3 #[.int .i64 (z : Int)])) rfl).rowI
          have hsN : N ≤ wq.heap.size := by have := hbl2.size; rw [HNe.out] at this; exact this
          have HB2 := Lib.hid (hbl.trans (hba.mono hsN))
          have HSQ : Hid (N ≤ (wq.alloc (.cells #[.int .i64 (z : Int)] 3)).heap.size) := by show _ ≤ _; simp; omega
          clear hown hba hbl hbl2
          go_wp2_with (at_builtin; refine app_ints _ rfl (.tmp 36) (.tmp 38) rfl N (.slice A3 k c3) k (dI o) rfl HOWN.out (some ⟨wq.heap.size, 0, none⟩) 1 1 [(z : Int)] rfl HROW.out (by omega) HSQ.out ?_)
          all_goals
            intro v5 w5 hown5 hgr5
            have hown6 : Hid (w5.ownsRow N 3 1 v5 (k + 1) ((dI (o ++ [z])).map (Value.int .i64))) := by
              show World.ownsRow _ _ _ _ _ _ _
              rw [dI_app, List.map_append]
              exact hown5
            have hb5 := Lib.hid (HB2.out.grown hgr5 HSQ.out (fun q hq => (World.ownsRow.lt HOWN.out q hq).1))
            clear hown5 hgr5 HOWN HROW HB2
            go_wp2_with fail
            go_roundw
            case rel => exact ⟨k + 1, o ++ [z], 1, by omega, by omega, by go_num, rfl, hown6.out, HINV.out, hb5.out⟩
            case measure => simp [intOf] <;> omega
        · obtain ⟨z, hz⟩ : ∃ z : Nat, (z : Int) = (x : Int) - (bw : Int) - (y : Int) := ⟨((x : Int) - (bw : Int) - (y : Int)).toNat, by omega⟩
          have hz4 : z < 10000 := by omega
          have hzi : (x : Int) - (bw : Int) - (y : Int) = (z : Int) := hz.symm
          have HINV : Hid ((o ++ [z]).length = k + 1 ∧ Digit (o ++ [z]) ∧ vad (o ++ [z]) + vad (q.take (k + 1)) = vad (p.take (k + 1)) + 0 * 10000 ^ (k + 1)) := by
            obtain ⟨h1, h2, h3⟩ := hinv.out
            refine ⟨by rw [List.length_append, h1]; rfl, fun t ht => ?_, ?_⟩
            · rcases List.mem_append.1 ht with ht | ht
              · exact h2 t ht
              · rw [List.mem_singleton] at ht
                rw [ht]; exact hz4
            · rw [vad_append, h1, HTQ.out, vad_take_succ HX.out, Nat.pow_succ]
              have := less_step (x := x) (y := y) (z := z) (bw' := 0) h3 (by omega)
              simpa [vad] using this
          have hdn : decide ((z : Int) < 0) = false := by simp
          clear hz hneg
          have hba : Below wq.heap.size wq (wq.alloc (.cells #[.int .i64 (z : Int)] 3)) := (Below.refl _ _).alloc (Nat.le_refl _) _
          have HOWN := Lib.hid (own_later hown hba)
          have HROW : Hid (RowI (wq.alloc (.cells #[.int .i64 (z : Int)] 3)) (some ⟨wq.heap.size, 0, none⟩) 1 [(z : Int)]) := (RowH.of_row (RowB.of (l := [(z : Int)]) (by simpa [rowc] using Blk.new wq 3 #[.int .i64 (z : Int)])) rfl).rowI
          have hsN : N ≤ wq.heap.size := by have := hbl2.size; rw [HNe.out] at this; exact this
          have HB2 := Lib.hid (hbl.trans (hba.mono hsN))
          have HSQ : Hid (N ≤ (wq.alloc (.cells #[.int .i64 (z : Int)] 3)).heap.size) := by show _ ≤ _; simp; omega
          clear hown hba hbl hbl2
          go_wp2_with (at_builtin; refine app_ints _ rfl (.tmp 36) (.tmp 38) rfl N (.slice A3 k c3) k (dI o) rfl HOWN.out (some ⟨wq.heap.size, 0, none⟩) 1 1 [(z : Int)] rfl HROW.out (by omega) HSQ.out ?_)
          all_goals
            intro v5 w5 hown5 hgr5
            have hown6 : Hid (w5.ownsRow N 3 1 v5 (k + 1) ((dI (o ++ [z])).map (Value.int .i64))) := by
              show World.ownsRow _ _ _ _ _ _ _
              rw [dI_app, List.map_append]
              exact hown5
            have hb5 := Lib.hid (HB2.out.grown hgr5 HSQ.out (fun q hq => (World.ownsRow.lt HOWN.out q hq).1))
            clear hown5 hgr5 HOWN HROW HB2
            go_wp2_with fail
            go_roundw
            case rel => exact ⟨k + 1, o ++ [z], 0, by omega, by omega, by go_num, rfl, hown6.out, HINV.out, hb5.out⟩
            case measure => simp [intOf] <;> omega
      · have hm1 : decide ((k : Int) < (m : Int)) = false := decide_eq_false (by omega)
        have hm1' : decide (k < m) = false := decide_eq_false hkm
        obtain ⟨y, hy0⟩ : ∃ y : Nat, y = 0 := ⟨0, rfl⟩
        have HTQ : Hid (vad (q.take (k + 1)) = vad (q.take k) + 10000 ^ k * y) := by
          show _ = _
          rw [hy0, List.take_of_length_le (by rw [HM.out]; omega), List.take_of_length_le (by rw [HM.out]; omega)]
          simp
        have HY0 := Lib.hid hy0
        clear hy0
        by_cases hneg : (x : Int) - (bw : Int) < 0
        · obtain ⟨z, hz⟩ : ∃ z : Nat, (z : Int) = (x : Int) - (bw : Int) + 10000 := ⟨((x : Int) - (bw : Int) + 10000).toNat, by omega⟩
          have hz4 : z < 10000 := by omega
          have hzi : (x : Int) - (bw : Int) + 10000 = (z : Int) := hz.symm
          have hy := HY0.out
          have HINV : Hid ((o ++ [z]).length = k + 1 ∧ Digit (o ++ [z]) ∧ vad (o ++ [z]) + vad (q.take (k + 1)) = vad (p.take (k + 1)) + 1 * 10000 ^ (k + 1)) := by
            obtain ⟨h1, h2, h3⟩ := hinv.out
            refine ⟨by rw [List.length_append, h1]; rfl, fun t ht => ?_, ?_⟩
            · rcases List.mem_append.1 ht with ht | ht
              · exact h2 t ht
              · rw [List.mem_singleton] at ht
                rw [ht]; exact hz4
            · rw [vad_append, h1, HTQ.out, vad_take_succ HX.out, Nat.pow_succ]
              have := less_step (x := x) (y := y) (z := z) (bw' := 1) h3 (by omega)
              simpa [vad] using this
          clear hy
          have hdn : decide ((x : Int) - (bw : Int) < 0) = true := decide_eq_true hneg
          obtain ⟨s0, hs0⟩ : ∃ s : Int, (x : Int) - (bw : Int) = s := ⟨_, rfl⟩
          have hs0b : -10001 ≤ s0 := by omega
          have hs0c : s0 ≤ 10000 := by omega
          have hsz : s0 + 10000 = (z : Int) := by omega
          rw [hs0] at hdn hneg
          clear hz hzi
          have hba : Below wq.heap.size wq (wq.alloc (.cells #[.int .i64 (z : Int)] 3)) := (Below.refl _ _).alloc (Nat.le_refl _) _
          have HOWN := Lib.hid (own_later hown hba)
          have HROW : Hid (RowI (wq.alloc (.cells #[.int .i64 (z : Int)] 3)) (some ⟨wq.heap.size, 0, none⟩) 1 [(z : Int)]) := (RowH.of_row (RowB.of (l := [(z : Int)]) (by simpa [rowc] using Blk.new wq 3 #[.int .i64 (z : Int)])) rfl).rowI
          have hsN : N ≤ wq.heap.size := by have := hbl2.size; rw [HNe.out] at this; exact this
          have HB2 := Lib.hid (hbl.trans (hba.mono hsN))
          have HSQ : Hid (N ≤ (wq.alloc (.cells #[.int .i64 (z : Int)] 3)).heap.size) := by show _ ≤ _; simp; omega
          clear hown hba hbl hbl2
          go_wp2_with (at_builtin; refine app_ints _ rfl (.tmp 36) (.tmp 38) rfl N (.slice A3 k c3) k (dI o) rfl HOWN.out (some ⟨wq.heap.size, 0, none⟩) 1 1 [(z : Int)] rfl HROW.out (by omega) HSQ.out ?_)
          all_goals
            intro v5 w5 hown5 hgr5
            have hown6 : Hid (w5.ownsRow N 3 1 v5 (k + 1) ((dI (o ++ [z])).map (Value.int .i64))) := by
              show World.ownsRow _ _ _ _ _ _ _
              rw [dI_app, List.map_append]
              exact hown5
            have hb5 := Lib.hid (HB2.out.grown hgr5 HSQ.out (fun q hq => (World.ownsRow.lt HOWN.out q hq).1))
            clear hown5 hgr5 HOWN HROW HB2
            go_wp2_with fail
            go_roundw
            case rel => exact ⟨k + 1, o ++ [z], 1, by omega, by omega, by go_num, rfl, hown6.out, HINV.out, hb5.out⟩
            case measure => simp [intOf] <;> omega
        · obtain ⟨z, hz⟩ : ∃ z : Nat, (z : Int) = (x : Int) - (bw : Int) := ⟨((x : Int) - (bw : Int)).toNat, by omega⟩
          have hz4 : z < 10000 := by omega
          have hzi : (x : Int) - (bw : Int) = (z : Int) := hz.symm
          have hy := HY0.out
          have HINV : Hid ((o ++ [z]).length = k + 1 ∧ Digit (o ++ [z]) ∧ vad (o ++ [z]) + vad (q.take (k + 1)) = vad (p.take (k + 1)) + 0 * 10000 ^ (k + 1)) := by
            obtain ⟨h1, h2, h3⟩ := hinv.out
            refine ⟨by rw [List.length_append, h1]; rfl, fun t ht => ?_, ?_⟩
            · rcases List.mem_append.1 ht with ht | ht
              · exact h2 t ht
              · rw [List.mem_singleton] at ht
                rw [ht]; exact hz4
            · rw [vad_append, h1, HTQ.out, vad_take_succ HX.out, Nat.pow_succ]
              have := less_step (x := x) (y := y) (z := z) (bw' := 0) h3 (by omega)
              simpa [vad] using this
          clear hy
          have hdn : decide ((z : Int) < 0) = false := by simp
          clear hz hneg
          have hba : Below wq.heap.size wq (wq.alloc (.cells #[.int .i64 (z : Int)] 3)) := (Below.refl _ _).alloc (Nat.le_refl _) _
          have HOWN := Lib.hid (own_later hown hba)
          have HROW : Hid (RowI (wq.alloc (.cells #[.int .i64 (z : Int)] 3)) (some ⟨wq.heap.size, 0, none⟩) 1 [(z : Int)]) := (RowH.of_row (RowB.of (l := [(z : Int)]) (by simpa [rowc] using Blk.new wq 3 #[.int .i64 (z : Int)])) rfl).rowI
          have hsN : N ≤ wq.heap.size := by have := hbl2.size; rw [HNe.out] at this; exact this
          have HB2 := Lib.hid (hbl.trans (hba.mono hsN))
          have HSQ : Hid (N ≤ (wq.alloc (.cells #[.int .i64 (z : Int)] 3)).heap.size) := by show _ ≤ _; simp; omega
          clear hown hba hbl hbl2
          go_wp2_with (at_builtin; refine app_ints _ rfl (.tmp 36) (.tmp 38) rfl N (.slice A3 k c3) k (dI o) rfl HOWN.out (some ⟨wq.heap.size, 0, none⟩) 1 1 [(z : Int)] rfl HROW.out (by omega) HSQ.out ?_)
          all_goals
            intro v5 w5 hown5 hgr5
            have hown6 : Hid (w5.ownsRow N 3 1 v5 (k + 1) ((dI (o ++ [z])).map (Value.int .i64))) := by
              show World.ownsRow _ _ _ _ _ _ _
              rw [dI_app, List.map_append]
              exact hown5
            have hb5 := Lib.hid (HB2.out.grown hgr5 HSQ.out (fun q hq => (World.ownsRow.lt HOWN.out q hq).1))
            clear hown5 hgr5 HOWN HROW HB2
            go_wp2_with fail
            go_roundw
            case rel => exact ⟨k + 1, o ++ [z], 0, by omega, by omega, by go_num, rfl, hown6.out, HINV.out, hb5.out⟩
            case measure => simp [intOf] <;> omega
    · obtain rfl : k = n := by omega
      have hd : decide ((k : Int) < (k : Int)) = false := decide_eq_false (by omega)
      have HRES : Hid (vad o = a - b) := by
        show _ = _
        obtain ⟨h1, h2, h3⟩ := hinv.out
        rw [List.take_of_length_le (by rw [HM.out]; omega), List.take_of_length_le (by rw [HN.out]; omega), HA.out, HB.out] at h3
        have h4 := vad_lt h2
        rw [h1] at h4
        have h5 := HBA.out
        rcases (show bw = 0 ∨ bw = 1 by omega) with e | e
        · rw [e] at h3; omega
        · rw [e, Nat.one_mul] at h3; omega
      have HROW := Lib.hid (own_rowH hown)
      have hcap : Hid (k ≤ c3) := by
        show _ ≤ _
        rcases hown.2 with ⟨h1, _⟩ | ⟨g', cap, cur, h1, _, _, h2, _⟩
        · injection h1; omega
        · injection h1; omega
      clear hown
      go_wp2_with fail
      go_ret
      exact ⟨A3, k, c3, o, rfl, HROW.out, hinv.out.2.1, hinv.out.1, HRES.out, hcap.out, la, hbl2⟩
end Go.Proofs.YtpklcjbdmikbdaaGreat
namespace Go.Proofs.YtpklcjbdmikbdaaGreat
set_option maxRecDepth 100000
open Go.RowKit

theorem magD_one {w : World} {v : Value} {a : Nat} (h : MagD w v a) (h0 : 0 < a) (h1 : a < 10000) : ∃ g c, v = .slice (some ⟨g, 0, none⟩) 1 c ∧ g < w.heap.size ∧ w.cell? ⟨g, 0, none⟩ = some (.int .i64 (a : Int)) := by
  obtain ⟨A, c, e, hr, _⟩ := h
  rw [digs_one h0 h1] at e hr
  obtain ⟨g, e2, hg, hc⟩ := hr.2 (by simp)
  subst e2
  exact ⟨g, c, e, hg, hc 0 a rfl⟩
theorem magD_zero {w : World} {v : Value} (h : MagD w v 0) : ∃ A c, v = .slice A 0 c := by
  obtain ⟨A, c, e, _, _⟩ := h
  rw [digs_zero] at e
  exact ⟨A, c, e⟩
theorem fld45 (b : Bool) (A : Option Addr) (n c : Nat) (w : World) : (Instr.field 45 (.agg #[.bool b, .slice A n c]) 1).run Tryz.prog w = .ok (.slice A n c) w := by kernel_rfl
theorem row_of {w : World} {g : Nat} {l : List Nat} {n : Nat} (h : Blk w g 3 (rowc (dI l))) (hn : l.length = n) : RowH w (some ⟨g, 0, none⟩) n (dI l) :=
  RowH.of_row (RowB.of h) (by rw [dI_len]; exact hn)
set_option maxHeartbeats 16000000 in
theorem mulD_zero (A B : Option Addr) (m ca cb p : Nat) (hm : m ≤ 900) (hp : p = 0) (w : World) : Calls Tryz.prog 34 #[.agg #[.bool false, .slice A 0 ca], .agg #[.bool false, .slice B m cb]] w (ZR w false p) := by
  have HV : Hid (vad (List.replicate (m + 1) 0) = p) := by
    show _ = _
    rw [hp]
    generalize m + 1 = j
    induction j with
    | zero => rfl
    | succ j ih => rw [List.replicate_succ, vad, ih]
  have hmk : ∀ w, (Instr.makeSlice 43 (.int .i64 ((m : Int) + 1)) (.int .i64 ((m : Int) + 1))).run Tryz.prog w = .ok (.slice (some ⟨w.heap.size, 0, none⟩) (m + 1) (m + 1)) (w.alloc (.cells (rowc (dI (List.replicate (m + 1) 0))) 3)) := fun w => by
    have := make_ints (m + 1) (by omega) w
    rw [show dI (List.replicate (m + 1) 0) = List.replicate (m + 1) 0 by simp [dI]]
    exact this
  have HLD : Hid (Digit (List.replicate (m + 1) 0)) := fun a ha => by rw [List.mem_replicate] at ha; omega
  clear hp
  have e3 : ((w.alloc (.cells #[.bool false, .slice A 0 ca] 45)).alloc (.cells #[.bool false, .slice B m cb] 45)).heap.size = w.heap.size + 2 := by simp
  have e1 : (w.alloc (.cells #[.bool false, .slice A 0 ca] 45)).heap.size = w.heap.size + 1 := by simp
  have kA := ((Blk.new w 45 #[.bool false, .slice A 0 ca]).alloc (.cells #[.bool false, .slice B m cb] 45)).alloc (.cells #[.bool false, .slice none 0 0] 45)
  have kB := (Blk.new (w.alloc (.cells #[.bool false, .slice A 0 ca] 45)) 45 #[.bool false, .slice B m cb]).alloc (.cells #[.bool false, .slice none 0 0] 45)
  have kR := Blk.new ((w.alloc (.cells #[.bool false, .slice A 0 ca] 45)).alloc (.cells #[.bool false, .slice B m cb] 45)) 45 #[.bool false, .slice none 0 0]
  rw [e1] at kB
  rw [e3] at kR
  have hb1 : Below w.heap.size w (((w.alloc (.cells #[.bool false, .slice A 0 ca] 45)).alloc (.cells #[.bool false, .slice B m cb] 45)).alloc (.cells #[.bool false, .slice none 0 0] 45)) :=
    (((Below.refl _ _).alloc (Nat.le_refl _) _).alloc (by simp) _).alloc (by simp; omega) _
  clear e1 e3
  go_enter Tryz.func34, Tryz.ntmps34
  go_upto_region 1 with fail
  revert kA kB kR hb1
  generalize ((w.alloc (.cells #[.bool false, .slice A 0 ca] 45)).alloc (.cells #[.bool false, .slice B m cb] 45)).alloc (.cells #[.bool false, .slice none 0 0] 45) = w1
  generalize hNe : w.heap.size = N
  intro kA kB kR hb1
  have HNe := Lib.hid hNe
  have hsz := hb1.size
  rw [hNe] at hsz
  clear hNe
  have lR := kR.lt
  have kA2 := kA.alloc (.cells (rowc (dI (List.replicate (m + 1) 0))) 3)
  have kB2 := kB.alloc (.cells (rowc (dI (List.replicate (m + 1) 0))) 3)
  have kR2 := kR.alloc (.cells (rowc (dI (List.replicate (m + 1) 0))) 3)
  have kO2 := Blk.new w1 3 (rowc (dI (List.replicate (m + 1) 0)))
  have hb2 := hb1.trans (((Below.refl w1.heap.size w1).alloc (Nat.le_refl _) (.cells (rowc (dI (List.replicate (m + 1) 0))) 3)).mono hsz)
  have cA := kA.cell
  have lA := kA.lt
  have cB := kB.cell
  have lB := kB.lt
  go_upto_region 2 with fail
  clear cA cB kA kB kR hmk hb1
  revert kA2 kB2 kR2 kO2 hb2 lA lB lR
  generalize w1.alloc (.cells (rowc (dI (List.replicate (m + 1) 0))) 3) = w2
  generalize w1.heap.size = g
  intro lR kA kB kR kO hb2 lA lB
  have hsz2 := hb2.size
  rw [HNe.out] at hsz2
  have hO := kO.lt
  have cA := kA.cell
  have lA2 := kA.lt
  go_wp2_with fail
  go_loopw [6] (fun i wr => i = .int .i64 0 ∧ wr = w2) (fun i _ => 0)
  case atStart => exact ⟨rfl, rfl⟩
  case round =>
    obtain ⟨rfl, rfl⟩ := hrel
    obtain ⟨wq, hwq⟩ : ∃ x, x = wr := ⟨_, rfl⟩
    subst hwq
    clear cA lA2
    have hbe : ((false : Bool) != false) = false := rfl
    have kA3 := kA
    have kB3 := kB
    have kR3 := kR
    have kW := kO
    have hgr := World.grownBy.refl wq (some g)
    have HT : Hid (∀ V, Below wq.heap.size wq V → Calls Tryz.prog 53 #[.agg #[.bool false, .slice (some ⟨g, 0, none⟩) (m + 1) (m + 1)]] V (ZR V false p)) := fun V h => by
      have := lean_any (some ⟨g, 0, none⟩) (m + 1) (m + 1) (List.replicate (m + 1) 0) false V ((row_of (l := (List.replicate (m + 1) 0)) (n := (m + 1)) kW (by simp)).later h) HLD.out (by omega) (Nat.le_refl _)
      rw [HV.out] at this
      exact this
    have hbw : Below N w wq := hb2.trans (below_of_only hgr (by omega) (by omega))
    have cA := kA3.cell
    have lA := kA3.lt
    have cB := kB3.cell
    have lB := kB3.lt
    have KR3 := Lib.hid kR3
    have hsz3 := hbw.size
    rw [HNe.out] at hsz3
    clear kW
    go_wp2_with fail
    refine (HT.out _ (Below.refl _ _)).mono ?_
    rintro e w5 ⟨v5, rfl, hv5, hb5⟩
    obtain ⟨A5, c5, rfl, rA5, hcap5⟩ := hv5
    have RA := Lib.hid rA5
    have HCAP := Lib.hid hcap5
    have kR8 := KR3.out.later hb5
    have cR := kR8.cell
    have fR := kR8.frozen
    have lR8 := kR8.lt
    have hb9 := Lib.hid (hbw.trans (hb5.mono hsz3))
    have HK9 := Lib.hid ((kR8.set_ 0 (.bool false)).set_ 1 (.slice A5 (digs p).length c5))
    have hfar : Hid (∀ g', A5 = some ⟨g', 0, none⟩ → 0 < (digs p).length → g' ≠ N + 2) := fun g' hg' h0 e => by
      obtain ⟨g2, e2, _, hc2⟩ := RA.out.2 h0
      rw [hg'] at e2
      cases e2
      obtain ⟨x, hx⟩ : ∃ x, (dI (digs p))[0]? = some x := ⟨_, List.getElem?_eq_getElem (by rw [dI_len]; exact h0)⟩
      have h3 := hc2 0 x hx
      rw [e, cR] at h3
      simp at h3
    clear rA5 hcap5 kR8 hb5 HT cA lA cB lB kA3 kB3
    generalize hdl : (digs p).length = dl at *
    have HDL := Lib.hid hdl
    clear hdl
    go_wp2_with fail
    refine bodyPost_cell (N + 2) 45 #[.bool false, .slice A5 dl c5] (.agg #[.bool false, .slice A5 dl c5]) HK9.out ?_ ⟨.slice A5 dl c5, rfl, ⟨A5, c5, by rw [HDL.out], ?_, by rw [HDL.out]; exact HCAP.out⟩, ?_⟩
    · intro W' hW'
      simp [results, Tryz.results34, go_sem, hW']
    · rw [HDL.out]
      rcases Nat.eq_zero_or_pos dl with h0 | h0
      · subst h0
        have h1 := RA.out.1
        rw [List.eq_nil_of_length_eq_zero h1]
        exact RowH.nil _ _
      · exact (RA.out.far (p := ⟨N + 2, 0, none⟩) (fun g' hg' => hfar.out g' hg' h0) (.bool false)).far (p := ⟨N + 2, 1, none⟩) (fun g' hg' => hfar.out g' hg' h0) _
    · rw [HNe.out]
      exact (hb9.out.setCell (show N ≤ N + 2 by omega) _).setCell (show N ≤ N + 2 by omega) _
set_option maxHeartbeats 16000000 in
theorem mulD_pos (ga gb ca cb a b : Nat) (w : World) (hga : ga < w.heap.size) (hgb : gb < w.heap.size) (qa : w.cell? ⟨ga, 0, none⟩ = some (.int .i64 (a : Int))) (qb : w.cell? ⟨gb, 0, none⟩ = some (.int .i64 (b : Int))) (ha : a < 10000) (hb : b < 10000) :
    Calls Tryz.prog 34 #[.agg #[.bool false, .slice (some ⟨ga, 0, none⟩) 1 ca], .agg #[.bool false, .slice (some ⟨gb, 0, none⟩) 1 cb]] w (ZR w false (a * b)) := by
  obtain ⟨p, hp⟩ : ∃ p, p = a * b := ⟨_, rfl⟩
  have hpb : p < 100000000 := by
    rw [hp]
    have := Nat.mul_le_mul (show a ≤ 9999 by omega) (show b ≤ 9999 by omega)
    omega
  have hmul : (a : Int) * (b : Int) = (p : Int) := by rw [hp]; push_cast; rfl
  have HM := Lib.hid hmul
  rw [← hp]
  clear hp hmul
  obtain ⟨l0, hl0⟩ : ∃ q, p % 10000 = q := ⟨_, rfl⟩
  obtain ⟨l1, hl1⟩ : ∃ q, p / 10000 = q := ⟨_, rfl⟩
  have HTM : Hid (Int.tmod (p : Int) 10000 = (l0 : Int)) := by show _ = _; rw [Int.tmod_eq_emod_of_nonneg (by omega)]; omega
  have HTD : Hid (Int.tdiv (p : Int) 10000 = (l1 : Int)) := by show _ = _; rw [Int.tdiv_eq_ediv_of_nonneg (by omega)]; omega
  have HTM1 : Hid (Int.tmod (l1 : Int) 10000 = (l1 : Int)) := by show _ = _; rw [Int.tmod_eq_emod_of_nonneg (by omega)]; omega
  have HTD1 : Hid (Int.tdiv (l1 : Int) 10000 = 0) := by show _ = _; rw [Int.tdiv_eq_ediv_of_nonneg (by omega)]; omega
  have HV : Hid (vad [l0, l1, 0] = p) := by show _ = _; simp only [vad]; omega
  have HLD : Hid (Digit [l0, l1, 0]) := fun a ha => by simp at ha; omega
  have b0 : l0 < 10000 := by omega
  have b1 : l1 < 10000 := by omega
  clear hl0 hl1
  have hmk : ∀ w, (Instr.makeSlice 43 (.int .i64 3) (.int .i64 3)).run Tryz.prog w = .ok (.slice (some ⟨w.heap.size, 0, none⟩) 3 3) (w.alloc (.cells #[.int .i64 0, .int .i64 0, .int .i64 0] 3)) := fun w => make_ints 3 (by omega) w
  have e3 : ((w.alloc (.cells #[.bool false, .slice (some ⟨ga, 0, none⟩) 1 ca] 45)).alloc (.cells #[.bool false, .slice (some ⟨gb, 0, none⟩) 1 cb] 45)).heap.size = w.heap.size + 2 := by simp
  have e1 : (w.alloc (.cells #[.bool false, .slice (some ⟨ga, 0, none⟩) 1 ca] 45)).heap.size = w.heap.size + 1 := by simp
  have kA := ((Blk.new w 45 #[.bool false, .slice (some ⟨ga, 0, none⟩) 1 ca]).alloc (.cells #[.bool false, .slice (some ⟨gb, 0, none⟩) 1 cb] 45)).alloc (.cells #[.bool false, .slice none 0 0] 45)
  have kB := (Blk.new (w.alloc (.cells #[.bool false, .slice (some ⟨ga, 0, none⟩) 1 ca] 45)) 45 #[.bool false, .slice (some ⟨gb, 0, none⟩) 1 cb]).alloc (.cells #[.bool false, .slice none 0 0] 45)
  have kR := Blk.new ((w.alloc (.cells #[.bool false, .slice (some ⟨ga, 0, none⟩) 1 ca] 45)).alloc (.cells #[.bool false, .slice (some ⟨gb, 0, none⟩) 1 cb] 45)) 45 #[.bool false, .slice none 0 0]
  rw [e1] at kB
  rw [e3] at kR
  have hb1 : Below w.heap.size w (((w.alloc (.cells #[.bool false, .slice (some ⟨ga, 0, none⟩) 1 ca] 45)).alloc (.cells #[.bool false, .slice (some ⟨gb, 0, none⟩) 1 cb] 45)).alloc (.cells #[.bool false, .slice none 0 0] 45)) :=
    (((Below.refl _ _).alloc (Nat.le_refl _) _).alloc (by simp) _).alloc (by simp; omega) _
  clear e1 e3
  go_enter Tryz.func34, Tryz.ntmps34
  go_upto_region 1 with fail
  revert kA kB kR hb1
  generalize ((w.alloc (.cells #[.bool false, .slice (some ⟨ga, 0, none⟩) 1 ca] 45)).alloc (.cells #[.bool false, .slice (some ⟨gb, 0, none⟩) 1 cb] 45)).alloc (.cells #[.bool false, .slice none 0 0] 45) = w1
  generalize hNe : w.heap.size = N
  intro kA kB kR hb1
  have HNe := Lib.hid hNe
  have hsz := hb1.size
  rw [hNe] at hsz hga hgb
  clear hNe
  have lR := kR.lt
  have kA2 := kA.alloc (.cells #[.int .i64 0, .int .i64 0, .int .i64 0] 3)
  have kB2 := kB.alloc (.cells #[.int .i64 0, .int .i64 0, .int .i64 0] 3)
  have kR2 := kR.alloc (.cells #[.int .i64 0, .int .i64 0, .int .i64 0] 3)
  have kO2 := Blk.new w1 3 #[.int .i64 0, .int .i64 0, .int .i64 0]
  have hb2 := hb1.trans (((Below.refl w1.heap.size w1).alloc (Nat.le_refl _) (.cells #[.int .i64 0, .int .i64 0, .int .i64 0] 3)).mono hsz)
  have cA := kA.cell
  have lA := kA.lt
  have cB := kB.cell
  have lB := kB.lt
  go_upto_region 2 with fail
  clear cA cB kA kB kR hmk hb1
  revert kA2 kB2 kR2 kO2 hb2 lA lB lR
  generalize w1.alloc (.cells #[.int .i64 0, .int .i64 0, .int .i64 0] 3) = w2
  generalize w1.heap.size = g
  intro lR kA kB kR kO hb2 lA lB
  have hsz2 := hb2.size
  rw [HNe.out] at hsz2
  have hO := kO.lt
  have hga2 : ga < w2.heap.size := by omega
  have hgb2 : gb < w2.heap.size := by omega
  have qa2 := (hb2.cell (p := ⟨ga, 0, none⟩) hga).trans qa
  have qb2 := (hb2.cell (p := ⟨gb, 0, none⟩) hgb).trans qb
  clear qa qb
  have cA := kA.cell
  have lA2 := kA.lt
  go_wp2_with fail
  clear cA lA2
  go_loopw [6] (fun i wr => ((i = .int .i64 0 ∧ Blk wr g 3 #[.int .i64 0, .int .i64 0, .int .i64 0]) ∨ (i = .int .i64 1 ∧ Blk wr g 3 #[.int .i64 (l0 : Int), .int .i64 (l1 : Int), .int .i64 0])) ∧ w2.grownBy wr (some g)) (fun i _ => 1 - (intOf i).toNat)
  case atStart => exact ⟨.inl ⟨rfl, kO⟩, World.grownBy.refl _ _⟩
  case round =>
    obtain ⟨hcase, hgr⟩ := hrel
    obtain ⟨wq, hwq⟩ : ∃ x, x = wr := ⟨_, rfl⟩
    subst hwq
    have kA3 := kA.grown hgr (by simp; omega)
    have kB3 := kB.grown hgr (by simp; omega)
    have kR3 := kR.grown hgr (by simp; omega)
    rcases hcase with ⟨rfl, kW⟩ | ⟨rfl, kW⟩
    · have cA := kA3.cell
      have lA3 := kA3.lt
      have cB := kB3.cell
      have lB3 := kB3.lt
      have qa3 := (hgr.cell_far ⟨ga, 0, none⟩ hga2 (by simp; omega)).trans qa2
      have qb3 := (hgr.cell_far ⟨gb, 0, none⟩ hgb2 (by simp; omega)).trans qb2
      go_wp2_with fail
      clear cA lA3 cB lB3 qa3 qb3
      go_loopw [7, 8] (fun cv kv wr => ((kv = .int .i64 0 ∧ cv = .int .i64 0 ∧ Blk wr g 3 #[.int .i64 0, .int .i64 0, .int .i64 0]) ∨ (kv = .int .i64 1 ∧ cv = .int .i64 (l1 : Int) ∧ Blk wr g 3 #[.int .i64 (l0 : Int), .int .i64 0, .int .i64 0]) ∨ (kv = .int .i64 2 ∧ cv = .int .i64 0 ∧ Blk wr g 3 #[.int .i64 (l0 : Int), .int .i64 (l1 : Int), .int .i64 0])) ∧ w2.grownBy wr (some g)) (fun _ kv _ => 2 - (intOf kv).toNat)
      case atStart => exact ⟨.inl ⟨rfl, rfl, kW⟩, hgr⟩
      case round =>
        obtain ⟨hcase, hgr4⟩ := hrel
        have kA4 := kA.grown hgr4 (by simp; omega)
        have kB4 := kB.grown hgr4 (by simp; omega)
        have qa4 := (hgr4.cell_far ⟨ga, 0, none⟩ hga2 (by simp; omega)).trans qa2
        have qb4 := (hgr4.cell_far ⟨gb, 0, none⟩ hgb2 (by simp; omega)).trans qb2
        have cA := kA4.cell
        have cB := kB4.cell
        have lA4 := kA4.lt
        have lB4 := kB4.lt
        clear hgr kW
        rcases hcase with ⟨rfl, rfl, kV⟩ | ⟨rfl, rfl, kV⟩ | ⟨rfl, rfl, kV⟩
        · have lV := kV.lt
          have hga4 : ga < wr.heap.size := by omega
          have hgb4 : gb < wr.heap.size := by omega
          have kV5 := Lib.hid ((kV.set_ 0 (.int .i64 (l0 : Int))).drew)
          have hgr5 := Lib.hid (only_drew (only_setCell hgr4 (p := ⟨g, 0, none⟩) (.inl rfl) (.int .i64 (l0 : Int))))
          have cV := kV.cell
          have fV := kV.frozen
          have h1 := HM.out
          have h2 := HTM.out
          have h3 := HTD.out
          go_wp2_with fail
          go_region
          go_wp2_with fail
          exact ⟨⟨.inr (.inl ⟨rfl, rfl, kV5.out⟩), hgr5.out⟩, by simp [intOf]⟩
        · rcases Nat.eq_zero_or_pos l1 with h0 | h0
          · subst h0
            have kV6 := Lib.hid kV
            clear kV qa4 qb4
            go_wp2_with fail
            exact ⟨⟨.inr ⟨rfl, kV6.out⟩, hgr4⟩, by simp [intOf]⟩
          · have d1 : decide ((l1 : Int) > 0) = true := decide_eq_true (by omega)
            have lV := kV.lt
            have kV5 := Lib.hid (kV.set_ 1 (.int .i64 (l1 : Int)))
            have hgr5 := Lib.hid (only_setCell hgr4 (p := ⟨g, 1, none⟩) (.inl rfl) (.int .i64 (l1 : Int)))
            have cV := kV.cell
            have fV := kV.frozen
            have h2 := HTM1.out
            have h3 := HTD1.out
            clear qa4 qb4
            go_wp2_with fail
            exact ⟨⟨.inr (.inr ⟨rfl, rfl, kV5.out⟩), hgr5.out⟩, by simp [intOf]⟩
        · have kV6 := Lib.hid kV
          clear kV qa4 qb4
          go_wp2_with fail
          exact ⟨⟨.inr ⟨rfl, kV6.out⟩, hgr4⟩, by simp [intOf]⟩
    · have hbe : ((false : Bool) != false) = false := rfl
      have HT : Hid (∀ V, Below wq.heap.size wq V → Calls Tryz.prog 53 #[.agg #[.bool false, .slice (some ⟨g, 0, none⟩) 3 3]] V (ZR V false p)) := fun V h => by
        have := lean_any (some ⟨g, 0, none⟩) (3) (3) [l0, l1, 0] false V ((row_of (l := [l0, l1, 0]) (n := 3) kW rfl).later h) HLD.out (by omega) (Nat.le_refl _)
        rw [HV.out] at this
        exact this
      have hbw : Below N w wq := hb2.trans (below_of_only hgr (by omega) (by omega))
      have cA := kA3.cell
      have lA := kA3.lt
      have cB := kB3.cell
      have lB := kB3.lt
      have KR3 := Lib.hid kR3
      have hsz3 := hbw.size
      rw [HNe.out] at hsz3
      clear kW
      go_wp2_with fail
      refine (HT.out _ (Below.refl _ _)).mono ?_
      rintro e w5 ⟨v5, rfl, hv5, hb5⟩
      obtain ⟨A5, c5, rfl, rA5, hcap5⟩ := hv5
      have RA := Lib.hid rA5
      have HCAP := Lib.hid hcap5
      have kR8 := KR3.out.later hb5
      have cR := kR8.cell
      have fR := kR8.frozen
      have lR8 := kR8.lt
      have hb9 := Lib.hid (hbw.trans (hb5.mono hsz3))
      have HK9 := Lib.hid ((kR8.set_ 0 (.bool false)).set_ 1 (.slice A5 (digs p).length c5))
      have hfar : Hid (∀ g', A5 = some ⟨g', 0, none⟩ → 0 < (digs p).length → g' ≠ N + 2) := fun g' hg' h0 e => by
        obtain ⟨g2, e2, _, hc2⟩ := RA.out.2 h0
        rw [hg'] at e2
        cases e2
        obtain ⟨x, hx⟩ : ∃ x, (dI (digs p))[0]? = some x := ⟨_, List.getElem?_eq_getElem (by rw [dI_len]; exact h0)⟩
        have h3 := hc2 0 x hx
        rw [e, cR] at h3
        simp at h3
      clear rA5 hcap5 kR8 hb5 HT cA lA cB lB kA3 kB3
      generalize hdl : (digs p).length = dl at *
      have HDL := Lib.hid hdl
      clear hdl
      go_wp2_with fail
      refine bodyPost_cell (N + 2) 45 #[.bool false, .slice A5 dl c5] (.agg #[.bool false, .slice A5 dl c5]) HK9.out ?_ ⟨.slice A5 dl c5, rfl, ⟨A5, c5, by rw [HDL.out], ?_, by rw [HDL.out]; exact HCAP.out⟩, ?_⟩
      · intro W' hW'
        simp [results, Tryz.results34, go_sem, hW']
      · rw [HDL.out]
        rcases Nat.eq_zero_or_pos dl with h0 | h0
        · subst h0
          have h1 := RA.out.1
          rw [List.eq_nil_of_length_eq_zero h1]
          exact RowH.nil _ _
        · exact (RA.out.far (p := ⟨N + 2, 0, none⟩) (fun g' hg' => hfar.out g' hg' h0) (.bool false)).far (p := ⟨N + 2, 1, none⟩) (fun g' hg' => hfar.out g' hg' h0) _
      · rw [HNe.out]
        exact (hb9.out.setCell (show N ≤ N + 2 by omega) _).setCell (show N ≤ N + 2 by omega) _
set_option maxHeartbeats 16000000 in
theorem mulD_left (ga : Nat) (B : Option Addr) (ca cb p : Nat) (hp : p = 0) (w : World) :
    Calls Tryz.prog 34 #[.agg #[.bool false, .slice (some ⟨ga, 0, none⟩) 1 ca], .agg #[.bool false, .slice B 0 cb]] w (ZR w false p) := by
  have HV : Hid (vad [0, 0] = p) := by show _ = _; rw [hp]; rfl
  have HLD : Hid (Digit [0, 0]) := fun a ha => by simp at ha; omega
  clear hp
  have hmk : ∀ w, (Instr.makeSlice 43 (.int .i64 2) (.int .i64 2)).run Tryz.prog w = .ok (.slice (some ⟨w.heap.size, 0, none⟩) 2 2) (w.alloc (.cells #[.int .i64 0, .int .i64 0] 3)) := fun w => make_ints 2 (by omega) w
  have e3 : ((w.alloc (.cells #[.bool false, .slice (some ⟨ga, 0, none⟩) 1 ca] 45)).alloc (.cells #[.bool false, .slice B 0 cb] 45)).heap.size = w.heap.size + 2 := by simp
  have e1 : (w.alloc (.cells #[.bool false, .slice (some ⟨ga, 0, none⟩) 1 ca] 45)).heap.size = w.heap.size + 1 := by simp
  have kA := ((Blk.new w 45 #[.bool false, .slice (some ⟨ga, 0, none⟩) 1 ca]).alloc (.cells #[.bool false, .slice B 0 cb] 45)).alloc (.cells #[.bool false, .slice none 0 0] 45)
  have kB := (Blk.new (w.alloc (.cells #[.bool false, .slice (some ⟨ga, 0, none⟩) 1 ca] 45)) 45 #[.bool false, .slice B 0 cb]).alloc (.cells #[.bool false, .slice none 0 0] 45)
  have kR := Blk.new ((w.alloc (.cells #[.bool false, .slice (some ⟨ga, 0, none⟩) 1 ca] 45)).alloc (.cells #[.bool false, .slice B 0 cb] 45)) 45 #[.bool false, .slice none 0 0]
  rw [e1] at kB
  rw [e3] at kR
  have hb1 : Below w.heap.size w (((w.alloc (.cells #[.bool false, .slice (some ⟨ga, 0, none⟩) 1 ca] 45)).alloc (.cells #[.bool false, .slice B 0 cb] 45)).alloc (.cells #[.bool false, .slice none 0 0] 45)) :=
    (((Below.refl _ _).alloc (Nat.le_refl _) _).alloc (by simp) _).alloc (by simp; omega) _
  clear e1 e3
  go_enter Tryz.func34, Tryz.ntmps34
  go_upto_region 1 with fail
  revert kA kB kR hb1
  generalize ((w.alloc (.cells #[.bool false, .slice (some ⟨ga, 0, none⟩) 1 ca] 45)).alloc (.cells #[.bool false, .slice B 0 cb] 45)).alloc (.cells #[.bool false, .slice none 0 0] 45) = w1
  generalize hNe : w.heap.size = N
  intro kA kB kR hb1
  have HNe := Lib.hid hNe
  have hsz := hb1.size
  rw [hNe] at hsz
  clear hNe
  have lR := kR.lt
  have kA2 := kA.alloc (.cells #[.int .i64 0, .int .i64 0] 3)
  have kB2 := kB.alloc (.cells #[.int .i64 0, .int .i64 0] 3)
  have kR2 := kR.alloc (.cells #[.int .i64 0, .int .i64 0] 3)
  have kO2 := Blk.new w1 3 #[.int .i64 0, .int .i64 0]
  have hb2 := hb1.trans (((Below.refl w1.heap.size w1).alloc (Nat.le_refl _) (.cells #[.int .i64 0, .int .i64 0] 3)).mono hsz)
  have cA := kA.cell
  have lA := kA.lt
  have cB := kB.cell
  have lB := kB.lt
  go_upto_region 2 with fail
  clear cA cB kA kB kR hmk hb1
  revert kA2 kB2 kR2 kO2 hb2 lA lB lR
  generalize w1.alloc (.cells #[.int .i64 0, .int .i64 0] 3) = w2
  generalize w1.heap.size = g
  intro lR kA kB kR kO hb2 lA lB
  have hsz2 := hb2.size
  rw [HNe.out] at hsz2
  have hO := kO.lt
  have cA := kA.cell
  have lA2 := kA.lt
  go_wp2_with fail
  clear cA lA2
  go_loopw [6] (fun i wr => ((i = .int .i64 0 ∧ Blk wr g 3 #[.int .i64 0, .int .i64 0]) ∨ (i = .int .i64 1 ∧ Blk wr g 3 #[.int .i64 0, .int .i64 0])) ∧ w2.grownBy wr (some g)) (fun i _ => 1 - (intOf i).toNat)
  case atStart => exact ⟨.inl ⟨rfl, kO⟩, World.grownBy.refl _ _⟩
  case round =>
    obtain ⟨hcase, hgr⟩ := hrel
    obtain ⟨wq, hwq⟩ : ∃ x, x = wr := ⟨_, rfl⟩
    subst hwq
    have kA3 := kA.grown hgr (by simp; omega)
    have kB3 := kB.grown hgr (by simp; omega)
    have kR3 := kR.grown hgr (by simp; omega)
    rcases hcase with ⟨rfl, kW⟩ | ⟨rfl, kW⟩
    · have cA := kA3.cell
      have lA3 := kA3.lt
      have cB := kB3.cell
      have lB3 := kB3.lt
      have KW := Lib.hid kW
      clear kW
      go_wp2_with fail
      go_loopw [7, 8] (fun cv kv wr => kv = .int .i64 0 ∧ cv = .int .i64 0 ∧ wr = wq) (fun _ kv _ => 0)
      case atStart => exact ⟨rfl, rfl, rfl⟩
      case round =>
        obtain ⟨rfl, rfl, rfl⟩ := hrel
        go_wp2_with fail
        exact ⟨⟨.inr ⟨rfl, KW.out⟩, hgr⟩, by simp [intOf]⟩
    · have hbe : ((false : Bool) != false) = false := rfl
      have HT : Hid (∀ V, Below wq.heap.size wq V → Calls Tryz.prog 53 #[.agg #[.bool false, .slice (some ⟨g, 0, none⟩) 2 2]] V (ZR V false p)) := fun V h => by
        have := lean_any (some ⟨g, 0, none⟩) (2) (2) [0, 0] false V ((row_of (l := [0, 0]) (n := 2) kW rfl).later h) HLD.out (by omega) (Nat.le_refl _)
        rw [HV.out] at this
        exact this
      have hbw : Below N w wq := hb2.trans (below_of_only hgr (by omega) (by omega))
      have cA := kA3.cell
      have lA := kA3.lt
      have cB := kB3.cell
      have lB := kB3.lt
      have KR3 := Lib.hid kR3
      have hsz3 := hbw.size
      rw [HNe.out] at hsz3
      clear kW
      go_wp2_with fail
      refine (HT.out _ (Below.refl _ _)).mono ?_
      rintro e w5 ⟨v5, rfl, hv5, hb5⟩
      obtain ⟨A5, c5, rfl, rA5, hcap5⟩ := hv5
      have RA := Lib.hid rA5
      have HCAP := Lib.hid hcap5
      have kR8 := KR3.out.later hb5
      have cR := kR8.cell
      have fR := kR8.frozen
      have lR8 := kR8.lt
      have hb9 := Lib.hid (hbw.trans (hb5.mono hsz3))
      have HK9 := Lib.hid ((kR8.set_ 0 (.bool false)).set_ 1 (.slice A5 (digs p).length c5))
      have hfar : Hid (∀ g', A5 = some ⟨g', 0, none⟩ → 0 < (digs p).length → g' ≠ N + 2) := fun g' hg' h0 e => by
        obtain ⟨g2, e2, _, hc2⟩ := RA.out.2 h0
        rw [hg'] at e2
        cases e2
        obtain ⟨x, hx⟩ : ∃ x, (dI (digs p))[0]? = some x := ⟨_, List.getElem?_eq_getElem (by rw [dI_len]; exact h0)⟩
        have h3 := hc2 0 x hx
        rw [e, cR] at h3
        simp at h3
      clear rA5 hcap5 kR8 hb5 HT cA lA cB lB kA3 kB3
      generalize hdl : (digs p).length = dl at *
      have HDL := Lib.hid hdl
      clear hdl
      go_wp2_with fail
      refine bodyPost_cell (N + 2) 45 #[.bool false, .slice A5 dl c5] (.agg #[.bool false, .slice A5 dl c5]) HK9.out ?_ ⟨.slice A5 dl c5, rfl, ⟨A5, c5, by rw [HDL.out], ?_, by rw [HDL.out]; exact HCAP.out⟩, ?_⟩
      · intro W' hW'
        simp [results, Tryz.results34, go_sem, hW']
      · rw [HDL.out]
        rcases Nat.eq_zero_or_pos dl with h0 | h0
        · subst h0
          have h1 := RA.out.1
          rw [List.eq_nil_of_length_eq_zero h1]
          exact RowH.nil _ _
        · exact (RA.out.far (p := ⟨N + 2, 0, none⟩) (fun g' hg' => hfar.out g' hg' h0) (.bool false)).far (p := ⟨N + 2, 1, none⟩) (fun g' hg' => hfar.out g' hg' h0) _
      · rw [HNe.out]
        exact (hb9.out.setCell (show N ≤ N + 2 by omega) _).setCell (show N ≤ N + 2 by omega) _
/-- The product of two numbers. -/
theorem mulD_any (va vb : Value) (a b : Nat) (w : World) (ha : MagD w va a) (hb : MagD w vb b) (ha2 : a < 10000) (hb2 : b < 10000) : Calls Tryz.prog 34 #[.agg #[.bool false, va], .agg #[.bool false, vb]] w (ZR w false (a * b)) := by
  rcases Nat.eq_zero_or_pos a with rfl | h0
  · obtain ⟨A, c, rfl⟩ := magD_zero ha
    obtain ⟨B, d, rfl, _, _⟩ := hb
    have : (digs b).length ≤ 1 := digs_le 1 b (by omega)
    exact mulD_zero A B _ c d _ (by omega) (Nat.zero_mul _) w
  · obtain ⟨g, c, rfl, hg, hc⟩ := magD_one ha h0 ha2
    rcases Nat.eq_zero_or_pos b with rfl | h1
    · obtain ⟨B, d, rfl⟩ := magD_zero hb
      exact mulD_left g B c d _ (Nat.mul_zero _) w
    · obtain ⟨g2, d, rfl, hg2, hc2⟩ := magD_one hb h1 hb2
      exact mulD_pos g g2 c d a b w hg hg2 hc hc2 ha2 hb2
set_option maxHeartbeats 8000000 in
theorem times_any (va : Value) (a d : Nat) (w : World) (ha : MagD w va a) (ha2 : a < 10000) (hd : d < 10000) : Calls Tryz.prog 86 #[va, .int .i64 (d : Int)] w fun e w' => ∃ v, e = .returned v ∧ MagD w' v (a * d) ∧ Below w.heap.size w w' := by
  have HI := Lib.hid (int_any d w (by omega))
  have HM : Hid (∀ V vd, Below w.heap.size w V → MagD V vd d → _) := fun V vd h hd' => mulD_any va vd a d V (ha.later h) hd' ha2 hd
  have hp : a * d < 100000000 := by
    have := Nat.mul_le_mul (show a ≤ 9999 by omega) (show d ≤ 9999 by omega)
    omega
  generalize a * d = p at *
  obtain ⟨A, c, rfl, _, _⟩ := ha
  generalize (digs a).length = n at *
  go_enter Tryz.func86, Tryz.ntmps86
  go_wp2_with fail
  refine HI.out.mono ?_
  rintro e w2 ⟨v2, rfl, hv2, hb2⟩
  have HM2 := Lib.hid (HM.out w2 v2 hb2 hv2)
  obtain ⟨A2, c2, rfl, _, _⟩ := hv2
  clear HI HM
  generalize (digs d).length = m at *
  go_wp2_with fail
  refine HM2.out.mono ?_
  rintro e w3 ⟨v3, rfl, hv3, hb3⟩
  obtain ⟨A3, c3, rfl, rA3, hc3⟩ := hv3
  have HL : Hid (Calls Tryz.prog 53 #[.agg #[.bool false, .slice A3 (digs p).length c3]] w3 (ZR w3 false p)) := by
    have := lean_any A3 (digs p).length c3 (digs p) false w3 rA3 (digs_digit p) (by have := digs_short (k := p) (by omega); omega) hc3
    rwa [vad_digs] at this
  have hb4 := hb2.trans (hb3.mono hb2.size)
  clear HM2 rA3 hc3 hb2 hb3
  generalize (digs p).length = q at *
  go_wp2_with fail
  refine HL.out.mono ?_
  rintro e w4 ⟨v4, rfl, hv4, hb5⟩
  have HV := Lib.hid hv4
  obtain ⟨A4, c4, rfl, _, _⟩ := hv4
  have hb6 := hb4.trans (hb5.mono hb4.size)
  clear HL hb4 hb5
  obtain ⟨j, hj⟩ : ∃ j, j = (digs p).length := ⟨_, rfl⟩
  have HJ := Lib.hid hj
  rw [← hj]
  clear hj
  have hfd := fld45 false A4 j c4
  go_wp2_with fail
  go_ret
  exact ⟨_, rfl, by rw [HJ.out]; exact HV.out, hb6⟩
end Go.Proofs.YtpklcjbdmikbdaaGreat
namespace Go.Proofs.YtpklcjbdmikbdaaGreat
set_option maxRecDepth 100000
open Go.RowKit

theorem bodyPost_cell2 {P : Program} {fn : Func} {R : Ending → World → Prop} {tmps : Array Value} {W : World} (g : Nat) (t : TypeId) (cs : Array Value) (g2 : Nat) (t2 : TypeId) (cs2 : Array Value) (v : Value)
    (hE : Blk W g t cs) (hE2 : Blk W g2 t2 cs2) (hr : ∀ W' : World, (∀ i, W'.cell? ⟨g, i, none⟩ = cs[i]?) → (∀ i, W'.cell? ⟨g2, i, none⟩ = cs2[i]?) → (results fn tmps).run P W' = .ok v W') (hR : R (.returned v) W) : bodyPost P fn R .ret ⟨tmps, []⟩ W :=
  bodyPost_ret (hr W hE.cell hE2.cell) rfl hR
theorem MagD.far {w : World} {v : Value} {k g t : Nat} {b : Bool} {r : List Value} (h : MagD w v k) (hk : Blk w g t (Value.bool b :: r).toArray) {p : Addr} (hp : p.block = g) (u : Value) : MagD (w.setCell p u) v k := by
  obtain ⟨A, c, rfl, hr, hc⟩ := h
  refine ⟨A, c, rfl, ?_, hc⟩
  rcases Nat.eq_zero_or_pos (digs k).length with h0 | h0
  · have h1 := hr.1
    rw [h0] at h1 ⊢
    rw [List.eq_nil_of_length_eq_zero h1]
    exact RowH.nil _ _
  · refine hr.far (fun g' hg' e => ?_) u
    obtain ⟨g2, e2, _, hc2⟩ := hr.2 h0
    rw [hg'] at e2
    cases e2
    obtain ⟨x, hx⟩ : ∃ x, (dI (digs k))[0]? = some x := ⟨_, List.getElem?_eq_getElem (by rw [dI_len]; exact h0)⟩
    have h3 := hc2 0 x hx
    rw [e, hp, hk.cell] at h3
    simp at h3
/-- What is returned: a quotient and a rest. -/
def DivZ (w : World) (q r : Nat) (e : Ending) (w' : World) : Prop := ∃ v u, e = .returned (.tuple #[.agg #[.bool false, v], .agg #[.bool false, u]]) ∧ MagD w' v q ∧ MagD w' u r ∧ Below w.heap.size w w'
/-- Zeros stripped off a number without a sign. -/
theorem lean_mag (A : Option Addr) (n c : Nat) (l : List Nat) (k : Nat) (w : World) (rA : RowH w A n (dI l)) (hl : Digit l) (hn : n ≤ 1000) (hc : n ≤ c) (hk : vad l = k) : Calls Tryz.prog 53 #[.agg #[.bool false, .slice A n c]] w fun e w' => ∃ v, e = .returned (.agg #[.bool false, v]) ∧ MagD w' v k ∧ Below w.heap.size w w' := by
  have := lean_any A n c l false w rA hl hn hc
  rw [hk] at this
  exact this
set_option maxHeartbeats 16000000 in
theorem divmod_zero (A B : Option Addr) (m ca cb q r : Nat) (hq : vad [] = q) (hr : vad [] = r) (w : World) : Calls Tryz.prog 69 #[.agg #[.bool false, .slice A 0 ca], .agg #[.bool false, .slice B m cb]] w (DivZ w q r) := by
  have HXQ := Lib.hid hq
  have HXR := Lib.hid hr
  clear hq hr
  have hmk : ∀ w, (Instr.makeSlice 43 (.int .i64 0) (.int .i64 0)).run Tryz.prog w = .ok (.slice (some ⟨w.heap.size, 0, none⟩) 0 0) (w.alloc (.cells #[] 3)) := fun w => make_ints 0 (by omega) w
  have e1 : (w.alloc (.cells #[.bool false, .slice A 0 ca] 45)).heap.size = w.heap.size + 1 := by simp
  have e2 : ((w.alloc (.cells #[.bool false, .slice A 0 ca] 45)).alloc (.cells #[.bool false, .slice B m cb] 45)).heap.size = w.heap.size + 2 := by simp
  have e3 : (((w.alloc (.cells #[.bool false, .slice A 0 ca] 45)).alloc (.cells #[.bool false, .slice B m cb] 45)).alloc (.cells #[.bool false, .slice none 0 0] 45)).heap.size = w.heap.size + 3 := by simp
  have e4 : ((((w.alloc (.cells #[.bool false, .slice A 0 ca] 45)).alloc (.cells #[.bool false, .slice B m cb] 45)).alloc (.cells #[.bool false, .slice none 0 0] 45)).alloc (.cells #[.bool false, .slice none 0 0] 45)).heap.size = w.heap.size + 4 := by simp
  have kA := (((Blk.new w 45 #[.bool false, .slice A 0 ca]).alloc (.cells #[.bool false, .slice B m cb] 45)).alloc (.cells #[.bool false, .slice none 0 0] 45)).alloc (.cells #[.bool false, .slice none 0 0] 45)
  have kB := ((Blk.new (w.alloc (.cells #[.bool false, .slice A 0 ca] 45)) 45 #[.bool false, .slice B m cb]).alloc (.cells #[.bool false, .slice none 0 0] 45)).alloc (.cells #[.bool false, .slice none 0 0] 45)
  have kR := (Blk.new ((w.alloc (.cells #[.bool false, .slice A 0 ca] 45)).alloc (.cells #[.bool false, .slice B m cb] 45)) 45 #[.bool false, .slice none 0 0]).alloc (.cells #[.bool false, .slice none 0 0] 45)
  have kS := Blk.new (((w.alloc (.cells #[.bool false, .slice A 0 ca] 45)).alloc (.cells #[.bool false, .slice B m cb] 45)).alloc (.cells #[.bool false, .slice none 0 0] 45)) 45 #[.bool false, .slice none 0 0]
  rw [e1] at kB
  rw [e2] at kR
  rw [e3] at kS
  have hb1 : Below w.heap.size w ((((w.alloc (.cells #[.bool false, .slice A 0 ca] 45)).alloc (.cells #[.bool false, .slice B m cb] 45)).alloc (.cells #[.bool false, .slice none 0 0] 45)).alloc (.cells #[.bool false, .slice none 0 0] 45)) :=
    ((((Below.refl _ _).alloc (Nat.le_refl _) _).alloc (by simp) _).alloc (by simp; omega) _).alloc (by simp; omega) _
  clear e1 e2 e3
  go_enter Tryz.func69, Tryz.ntmps69
  go_upto_region 1 with fail
  revert kA kB kR kS hb1 e4
  generalize (((w.alloc (.cells #[.bool false, .slice A 0 ca] 45)).alloc (.cells #[.bool false, .slice B m cb] 45)).alloc (.cells #[.bool false, .slice none 0 0] 45)).alloc (.cells #[.bool false, .slice none 0 0] 45) = w1
  generalize hNe : w.heap.size = N
  intro hsz kA kB kR kS hb1
  have HNe := Lib.hid hNe
  have hszl : N ≤ w1.heap.size := by omega
  have hszg : N + 3 < w1.heap.size := by omega
  clear hNe hsz
  have hbn : Below w1.heap.size w1 ((w1.alloc (.cells #[] 3)).alloc (.cells #[] 3)) := ((Below.refl _ _).alloc (Nat.le_refl _) _).alloc (by simp) _
  have kA2 := kA.later hbn
  have kB2 := kB.later hbn
  have kR2 := kR.later hbn
  have kS2 := kS.later hbn
  have hb2 := hb1.trans (hbn.mono hszl)
  have cA := kA.cell
  have lA := kA.lt
  go_upto_region 2 with fail
  clear cA lA kA kB kR kS hmk hb1 hbn
  revert kA2 kB2 kR2 kS2 hb2
  generalize (w1.alloc (.cells #[] 3)).alloc (.cells #[] 3) = w2
  generalize w1.heap.size = gq at *
  intro kA kB kR kS hbl
  have cA := kA.cell
  have lA := kA.lt
  go_wp2_with fail
  clear cA lA
  go_loopw [7, 8] (fun r i wr => r = .slice (some ⟨gq + 1, 0, none⟩) 0 0 ∧ i = .int .i64 (-1) ∧ wr = w2) (fun _ i _ => 0)
  case atStart => exact ⟨rfl, by go_num, rfl⟩
  case round =>
    obtain ⟨rfl, rfl, rfl⟩ := hrel
    obtain ⟨wq, hwq⟩ : ∃ x, x = wr := ⟨_, rfl⟩
    subst hwq
    have cA := kA.cell
    have lA := kA.lt
    have HQ := Lib.hid fun V (h : Below wq.heap.size wq V) => lean_mag (some ⟨gq, 0, none⟩) 0 0 [] q V ((RowH.nil wq (some ⟨gq, 0, none⟩)).later h) (fun _ h => by cases h) (by omega) (Nat.le_refl _) HXQ.out
    have HRR : Hid (∀ V, Below wq.heap.size wq V → Calls Tryz.prog 53 #[.agg #[.bool false, .slice (some ⟨gq + 1, 0, none⟩) 0 0]] V fun e w' => ∃ v, e = .returned (.agg #[.bool false, v]) ∧ MagD w' v r ∧ Below V.heap.size V w') := fun V _ => lean_mag (some ⟨gq + 1, 0, none⟩) 0 0 [] r V (RowH.nil _ _) (fun _ h => by cases h) (by omega) (Nat.le_refl _) HXR.out
    go_wp2_with fail
    refine (HQ.out _ (Below.refl _ _)).mono ?_
    rintro e w5 ⟨v12, rfl, hv12, hb5⟩
    clear HQ cA lA
    go_wp2_with fail
    refine (HRR.out _ hb5).mono ?_
    rintro e w6 ⟨v13, rfl, hv13, hb6⟩
    have hb7 := hb5.trans (hb6.mono hb5.size)
    replace hv12 := hv12.later hb6
    clear HRR
    have hba : Below w6.heap.size w6 ((w6.alloc (.cells #[.bool false, v12] 45)).alloc (.cells #[.bool false, v13] 45)) := ((Below.refl _ _).alloc (Nat.le_refl _) _).alloc (by simp) _
    have k12 := (Blk.new w6 45 #[.bool false, v12]).alloc (.cells #[.bool false, v13] 45)
    have k13 := Blk.new (w6.alloc (.cells #[.bool false, v12] 45)) 45 #[.bool false, v13]
    have e6 : (w6.alloc (.cells #[.bool false, v12] 45)).heap.size = w6.heap.size + 1 := by simp
    rw [e6] at k13
    have hb8 := hb7.trans (hba.mono hb7.size)
    have hb9 := hbl.trans (hb8.mono (by have := hbl.size; rw [HNe.out] at this; exact this))
    replace hv12 := hv12.later hba
    replace hv13 := hv13.later hba
    have kA9 := kA.later hb8
    have kR9 := kR.later hb8
    have kS9 := kS.later hb8
    have hg12 : N + 3 < w6.heap.size := Nat.lt_of_lt_of_le kS.lt hb7.size
    obtain ⟨A12, c12, rfl, _, _⟩ := id hv12
    obtain ⟨A13, c13, rfl, _, _⟩ := id hv13
    have hd0 := hb5
    clear hd0 hb5 hb6 hba e6 hbl
    go_upto_region 15 with fail
    have HALL := And.intro k12 (And.intro k13 (And.intro hb9 (And.intro hv12 (And.intro hv13 (And.intro kA9 (And.intro kR9 (And.intro kS9 hg12)))))))
    clear k12 k13 hb9 kA9 kR9 kS9 hv12 hv13 hg12
    revert HALL
    generalize (w6.alloc (.cells #[.bool false, .slice A12 (digs q).length c12] 45)).alloc (.cells #[.bool false, .slice A13 (digs r).length c13] 45) = w7
    generalize w6.heap.size = g12
    generalize hl12 : (digs q).length = n12
    generalize hl13 : (digs r).length = n13
    intro HALL
    obtain ⟨k12, k13, hb9, hv12, hv13, kA9, kR9, kS9, hg12⟩ : Blk w7 g12 45 #[.bool false, .slice A12 n12 c12] ∧ Blk w7 (g12 + 1) 45 #[.bool false, .slice A13 n13 c13] ∧ Below N w w7 ∧ MagD w7 (.slice A12 n12 c12) q ∧ MagD w7 (.slice A13 n13 c13) r ∧ Blk w7 N 45 #[.bool false, .slice A 0 ca] ∧ Blk w7 (N + 2) 45 #[.bool false, .slice none 0 0] ∧ Blk w7 (N + 3) 45 #[.bool false, .slice none 0 0] ∧ N + 3 < g12 := HALL
    have cA9 := kA9.cell
    have lA9 := kA9.lt
    go_wp2_with fail
    clear cA9 lA9 kA9
    refine held_var (S := fun V => Blk V g12 45 #[.bool false, .slice A12 n12 c12] ∧ Blk V (g12 + 1) 45 #[.bool false, .slice A13 n13 c13]) (by kernel_rfl) ⟨k12.drew, k13.drew⟩ (fun V0 hV0 hSS => ?_)
    have D12 := hSS.1
    have D13 := hSS.2
    have hR0 : Blk V0 (N + 2) 45 #[.bool false, .slice none 0 0] := by rw [hV0]; exact kR9.drew
    have hS0' : Blk V0 (N + 3) 45 #[.bool false, .slice none 0 0] := by rw [hV0]; exact kS9.drew
    have hv120 : MagD V0 (.slice A12 n12 c12) q := by rw [hV0]; exact hv12.later (Below.refl _ _).drew
    have hv130 : MagD V0 (.slice A13 n13 c13) r := by rw [hV0]; exact hv13.later (Below.refl _ _).drew
    have hb90 : Below N w V0 := by rw [hV0]; exact hb9.drew
    clear hV0
    have hR1 : Blk _ (N + 2) 45 #[.bool false, .slice none 0 0] := hR0.set_ 0 (.bool false)
    have hR2 : Blk _ (N + 2) 45 #[.bool false, .slice A12 n12 c12] := hR1.set_ 1 (.slice A12 n12 c12)
    have E12 := ((D12).far (p := ⟨N + 2, 0, none⟩) (show g12 ≠ N + 2 by omega) (.bool false)).far (p := ⟨N + 2, 1, none⟩) (show g12 ≠ N + 2 by omega) (.slice A12 n12 c12)
    have E13 := ((D13).far (p := ⟨N + 2, 0, none⟩) (show g12 + 1 ≠ N + 2 by omega) (.bool false)).far (p := ⟨N + 2, 1, none⟩) (show g12 + 1 ≠ N + 2 by omega) (.slice A12 n12 c12)
    have hS1 : Blk _ (N + 3) 45 #[.bool false, .slice none 0 0] := ((hS0').far (p := ⟨N + 2, 0, none⟩) (show N + 3 ≠ N + 2 by omega) (.bool false)).far (p := ⟨N + 2, 1, none⟩) (show N + 3 ≠ N + 2 by omega) (.slice A12 n12 c12)
    have hS2 : Blk _ (N + 3) 45 #[.bool false, .slice none 0 0] := hS1.set_ 0 (.bool false)
    have hS3 : Blk _ (N + 3) 45 #[.bool false, .slice A13 n13 c13] := hS2.set_ 1 (.slice A13 n13 c13)
    have hR3 := ((hR2).far (p := ⟨N + 3, 0, none⟩) (show N + 2 ≠ N + 3 by omega) (.bool false)).far (p := ⟨N + 3, 1, none⟩) (show N + 2 ≠ N + 3 by omega) (.slice A13 n13 c13)
    have F12 := ((E12).far (p := ⟨N + 3, 0, none⟩) (show g12 ≠ N + 3 by omega) (.bool false)).far (p := ⟨N + 3, 1, none⟩) (show g12 ≠ N + 3 by omega) (.slice A13 n13 c13)
    have F13 := ((E13).far (p := ⟨N + 3, 0, none⟩) (show g12 + 1 ≠ N + 3 by omega) (.bool false)).far (p := ⟨N + 3, 1, none⟩) (show g12 + 1 ≠ N + 3 by omega) (.slice A13 n13 c13)
    have HM1 := Lib.hid (((hv120.far (r := [.slice none 0 0]) hR0 (p := ⟨N + 2, 0, none⟩) rfl (.bool false)).far (r := [.slice none 0 0]) hR1 (p := ⟨N + 2, 1, none⟩) rfl (.slice A12 n12 c12)).far (r := [.slice none 0 0]) hS1 (p := ⟨N + 3, 0, none⟩) rfl (.bool false) |>.far (r := [.slice none 0 0]) hS2 (p := ⟨N + 3, 1, none⟩) rfl (.slice A13 n13 c13))
    have HM2 := Lib.hid (((hv130.far (r := [.slice none 0 0]) hR0 (p := ⟨N + 2, 0, none⟩) rfl (.bool false)).far (r := [.slice none 0 0]) hR1 (p := ⟨N + 2, 1, none⟩) rfl (.slice A12 n12 c12)).far (r := [.slice none 0 0]) hS1 (p := ⟨N + 3, 0, none⟩) rfl (.bool false) |>.far (r := [.slice none 0 0]) hS2 (p := ⟨N + 3, 1, none⟩) rfl (.slice A13 n13 c13))
    have HB := Lib.hid ((((hb90.setCell (p := ⟨N + 2, 0, none⟩) (show N ≤ N + 2 by omega) (.bool false)).setCell (p := ⟨N + 2, 1, none⟩) (show N ≤ N + 2 by omega) (.slice A12 n12 c12)).setCell (p := ⟨N + 3, 0, none⟩) (show N ≤ N + 3 by omega) (.bool false)).setCell (p := ⟨N + 3, 1, none⟩) (show N ≤ N + 3 by omega) (.slice A13 n13 c13))
    have HR3 := Lib.hid hR3
    have HS3 := Lib.hid hS3
    have HF := Lib.hid (And.intro F12 F13)
    have HE := Lib.hid (And.intro E12 E13)
    clear hv12 hv13 hb9 kR9 kS9 k12 k13 hR3 hS3 F12 F13 E12 E13 hS0' hv120 hv130 hb90
    refine wpAnyH_take (i := 0) (v := ?_) rfl (by kernel_rfl) (by kernel_rfl) (by kernel_rfl) (fun _ _ _ h => h) (Or.inl ⟨by rfl, ?hy⟩) (by assumption) ?_
    case hy => (intro w hSw; have cA := hSw.1.cell; have lA := hSw.1.lt; have cB := hSw.2.cell; have lB := hSw.2.lt; clear hSw; go_simp; try with_reducible rfl)
    refine wpAnyH_take (i := 1) (v := ?_) rfl (by kernel_rfl) (by kernel_rfl) (by kernel_rfl) (fun _ _ _ h => h) (Or.inl ⟨by rfl, ?hy⟩) (by assumption) ?_
    case hy => (intro w hSw; have cA := hSw.1.cell; have lA := hSw.1.lt; have cB := hSw.2.cell; have lB := hSw.2.lt; clear hSw; go_simp; try with_reducible rfl)
    simp only [Act.put, List.getElem_toArray, List.getElem_cons_succ, List.getElem_cons_zero, List.setIfInBounds_toArray, List.set_cons_succ, List.set_cons_zero]
    have cR := hR0.cell
    have fR := hR0.frozen
    have lR := hR0.lt
    clear hR0 D12 D13
    refine wpAnyH_ready (rs := [2]) (by kernel_rfl) (by simp) (AllReadyH.cons rfl (fun K hK => ?_) AllReadyH.nil)
    go_simp
    refine hK.out _ _ HE.out (fun _ => ?_)
    clear hK K cR fR lR hR1 hR2 hSS
    have cS := hS1.cell
    have fS := hS1.frozen
    have lS := hS1.lt
    have cS2 := hS2.cell
    have fS2 := hS2.frozen
    clear hS1 hS2
    refine wpAnyH_ready (rs := [3]) (by kernel_rfl) (by simp) (AllReadyH.cons rfl (fun K hK => ?_) AllReadyH.nil)
    go_simp
    refine hK.out _ _ HF.out (fun _ => ?_)
    clear hK K cS fS lS cS2 fS2
    refine wpAnyH_done (by kernel_rfl) ?_ _
    go_wp2_with fail
    refine bodyPost_cell2 (N + 2) 45 #[.bool false, .slice A12 n12 c12] (N + 3) 45 #[.bool false, .slice A13 n13 c13] (.tuple #[.agg #[.bool false, .slice A12 n12 c12], .agg #[.bool false, .slice A13 n13 c13]]) HR3.out HS3.out ?_ ⟨_, _, rfl, HM1.out, HM2.out, by rw [HNe.out]; exact HB.out⟩
    intro W' hW1 hW2
    simp [results, Tryz.results69, go_sem, hW1, hW2]
end Go.Proofs.YtpklcjbdmikbdaaGreat
