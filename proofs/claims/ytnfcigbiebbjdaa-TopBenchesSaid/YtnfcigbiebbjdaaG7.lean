/-
  The seat's texts Orders Few Few2 Few3 in one: the contracts of the functions that the law reaches, and the plain laws that they rest on.
  Conditions: as each theorem states them.
-/
import Derived.Test.YtnfcigbiebbjdaaG6
import Derived.Deep.Cut
namespace Go.Proofs.Ytnfcigbiebbjdaa
open Go.RowKit

/-- A value that is a slice of integers with room for them. -/
def IsRow (w : World) (v : Value) (l : List Int) : Prop := ∃ g c, v = .slice (some ⟨g, 0, none⟩) l.length c ∧ w.ownsRow 0 3 1 v l.length (l.map (Value.int .i64))
theorem IsRow.later {w w' : World} {v : Value} {l : List Int} (h : IsRow w v l) (hb : Below w.heap.size w w') : IsRow w' v l := by
  obtain ⟨g, c, e, h1⟩ := h
  exact ⟨g, c, e, own_later h1 hb⟩
theorem IsRow.row {w : World} {v : Value} {l : List Int} (h : IsRow w v l) : ∃ g c, v = .slice (some ⟨g, 0, none⟩) l.length c ∧ l.length ≤ c ∧ RowH w (some ⟨g, 0, none⟩) l.length l := by
  obtain ⟨g, c, e, h1⟩ := h
  subst e
  refine ⟨g, c, rfl, ?_, own_rowH h1⟩
  rcases h1.2 with ⟨h2, h3⟩ | ⟨g', cap', cur, h2, _, _, h4, _⟩
  · cases h2
  · injection h2 with e1 e2 e3
    omega
/-- A row of slices is another block than a row of integers. -/
theorem IsRow.kept {w w' : World} {v x : Value} {l : List Int} {base M : Nat} {vs : List Value} (h : IsRow w v l) (hx : w.ownsRow base 23 1 x M vs) (hg : w.grownBy w' x.ownBlock) : IsRow w' v l := by
  obtain ⟨g, c, e, h1⟩ := h
  refine ⟨g, c, e, h1.kept hg (.inr fun he => ?_)⟩
  subst e
  rcases h1.2 with ⟨h2, _⟩ | ⟨g', cap', cur, h2, _, h3, _⟩
  · cases h2
  · injection h2 with e1 e2 e3
    cases e1
    rcases hx.2 with ⟨h4, _⟩ | ⟨gx, capx, curx, h4, _, h5, _⟩
    · subst h4; cases he
    · subst h4
      simp only [Value.ownBlock, Option.some.injEq] at he
      subst he
      rw [h3] at h5
      injection h5 with h6
      injection h6 with _ h7
      exact absurd h7 (by decide)
theorem own_isRow {w : World} {base n : Nat} {v : Value} {l : List Int} (h : w.ownsRow base 3 1 v n (l.map (Value.int .i64))) (hn : l.length = n) (h0 : 0 < n) : IsRow w v l := by
  obtain ⟨g, cap, e, _, _⟩ := h.form h0
  subst hn
  exact ⟨g, cap, e, h.mono (Nat.zero_le _)⟩
theorem row_drop {w : World} {B k c t : Nat} {l : List Int} (h : RowH w (some ⟨B, 0, none⟩) k l) (hk : k ≤ c) : RowI w (if c = t then some ⟨B, 0, none⟩ else some ⟨B, t, none⟩) (k - t) (l.drop t) := by
  refine ⟨by rw [List.length_drop, h.1], fun h0 => ?_⟩
  rw [if_neg (by omega)]
  obtain ⟨g, e, hg, hc⟩ := h.2 (by omega)
  cases e
  refine ⟨_, rfl, hg, fun j v hj => ?_⟩
  rw [List.getElem?_drop] at hj
  rw [Addr.add_lit]
  exact hc _ v hj
/-- Slices of integers, one for each list. -/
def Rows (w : World) (vs : List Value) (LL : List (List Int)) : Prop := vs.length = LL.length ∧ ∀ (k : Nat) (l : List Int), LL[k]? = some l → ∃ v, vs[k]? = some v ∧ IsRow w v l
theorem Rows.later {w w' : World} {vs : List Value} {LL : List (List Int)} (h : Rows w vs LL) (hb : Below w.heap.size w w') : Rows w' vs LL :=
  ⟨h.1, fun k l hk => by obtain ⟨v, hv, hr⟩ := h.2 k l hk; exact ⟨v, hv, hr.later hb⟩⟩
theorem Rows.snoc {w : World} {vs : List Value} {LL : List (List Int)} {v : Value} {l : List Int} (h : Rows w vs LL) (hv : IsRow w v l) : Rows w (vs ++ [v]) (LL ++ [l]) := by
  refine ⟨by simp [h.1], fun k l' hk => ?_⟩
  rcases Nat.lt_trichotomy k LL.length with hlt | he | hgt
  · rw [List.getElem?_append_left hlt] at hk
    obtain ⟨v', h1, h2⟩ := h.2 k l' hk
    exact ⟨v', by rw [List.getElem?_append_left (by rw [h.1]; exact hlt)]; exact h1, h2⟩
  · subst he
    rw [List.getElem?_append_right (Nat.le_refl _), Nat.sub_self] at hk
    obtain rfl : l = l' := by simpa using hk
    exact ⟨v, by rw [← h.1, List.getElem?_append_right (Nat.le_refl _), Nat.sub_self]; rfl, hv⟩
  · rw [List.getElem?_eq_none (by simp; omega)] at hk
    cases hk
theorem Rows.one {w : World} {vs : List Value} {LL : List (List Int)} (h : Rows w vs LL) : ∀ u ∈ vs, u.oneCell' = true := by
  intro u hu
  obtain ⟨k, hk⟩ := List.getElem?_of_mem hu
  have hkl : k < LL.length := by rw [← h.1]; exact (List.getElem?_eq_some_iff.1 hk).1
  obtain ⟨v, hv, g, c, e, _⟩ := h.2 k LL[k] (List.getElem?_eq_getElem hkl)
  rw [hk] at hv
  cases hv
  rw [e]
  rfl
theorem insert_perm {i at_ : Nat} {l : List Int} (h : l.Perm (nums i)) : (l.take at_ ++ [(i : Int)] ++ l.drop at_).Perm (nums (i + 1)) := by
  rw [nums_succ]
  have h1 : (l.take at_ ++ [(i : Int)] ++ l.drop at_).Perm ([(i : Int)] ++ (l.take at_ ++ l.drop at_)) := by
    rw [← List.append_assoc]
    exact List.Perm.append_right _ List.perm_append_comm
  rw [List.take_append_drop] at h1
  exact h1.trans (List.perm_append_comm.trans (h.append_right _))
theorem info23 : (Try.prog.info? 23).map (fun i => (i.zero, i.size, i.bytes)) = some (some (.slice none 0 0), 1, 24) := by kernel_rfl
/-- What Orders has gathered. -/
def OrdK (w0 : World) (i : Nat) (v : Value) (N : Nat) (wr : World) : Prop :=
  ∃ (vs : List Value) (LL : List (List Int)), vs.length = N ∧ wr.ownsRow w0.heap.size 23 1 v N vs ∧ Rows wr vs LL ∧ (∀ o ∈ LL, o.Perm (nums i)) ∧ Below w0.heap.size w0 wr

set_option maxHeartbeats 4000000 in
theorem Orders_any (n : Nat) (w : World) (hn : n ≤ 5) : Calls Try.prog 23 #[.int .i64 n] w fun e w' => ∃ v N, e = .returned v ∧ N ≤ 3125 ∧ OrdK w n v N w' := by
  go_enter Try.func23, Try.ntmps23
  go_wp2_with fail
  go_loopw [3, 4] (fun v i wr => ∃ (k N : Nat), k ≤ n ∧ i = .int .i64 k ∧ N ≤ 5 ^ k ∧ OrdK w k v N wr) (fun _ i _ => n - (intOf i).toNat)
  case atStart =>
    have h0 : Below w.heap.size w (w.alloc (.cells #[] 3)) := (Below.refl _ _).alloc (Nat.le_refl _) _
    refine ⟨0, 1, Nat.zero_le _, rfl, by omega, [.slice (some ⟨w.heap.size, 0, none⟩) 0 0], [[]], rfl, ?_, ?_, by simp [nums], h0.alloc h0.size _⟩
    · have h := World.ownsRow_lit (base := w.heap.size) (e := 23) (size := 1) (w.alloc (.cells #[] 3)) #[.slice (some ⟨w.heap.size, 0, none⟩) 0 0] 1 (by simp) (by unfold maxLen; omega) (by simp)
      rw [World.size_alloc] at h
      exact h
    · refine ⟨rfl, fun j l hj => ?_⟩
      match j, hj with
      | 0, hj =>
        obtain rfl : ([] : List Int) = l := by simpa using hj
        exact ⟨_, rfl, w.heap.size, 0, rfl, ((World.ownsRow_made (base := 0) (e := 3) (size := 1) w #[] 0 (Nat.zero_le _) (by unfold maxLen; omega) (by simp)).alloc _)⟩
      | j + 1, hj => simp at hj
  case round =>
    obtain ⟨k, N, hk, rfl, hN, hK⟩ := hrel
    obtain ⟨v, hv⟩ : ∃ v, v = u3 := ⟨_, rfl⟩
    subst hv
    have hp : 5 ^ k ≤ 5 ^ 5 := Nat.pow_le_pow_right (by omega) (by omega)
    have hN2 : N ≤ 3125 := by omega
    by_cases hlt : k < n
    · obtain ⟨w1, hw1⟩ : ∃ w1, w1 = wr := ⟨_, rfl⟩
      subst hw1
      have hbt : decide ((k : Int) < (n : Int)) = true := by simp; omega
      have hbt2 : (k : Int) < (n : Int) := by omega
      have hmade : OrdK w1 (k + 1) (.slice (some ⟨w1.heap.size, 0, none⟩) 0 0) 0 (w1.alloc (.cells #[] 23)) :=
        ⟨[], [], rfl, World.ownsRow_made (base := w1.heap.size) (e := 23) (size := 1) w1 #[] 0 (by simp) (by unfold maxLen; omega) (by simp), ⟨rfl, fun j l hj => by simp at hj⟩, by simp, (Below.refl _ _).alloc (Nat.le_refl _) _⟩
      obtain ⟨vs, LL, hvs, hown, hrows, hord, hbw⟩ := hK
      have HO := Lib.hid hord
      have HR := Lib.hid hrows
      clear hord hrows hp
      obtain ⟨A, cA, rfl⟩ := own_slice hown
      go_wp2_with fail
      go_loopw [5, 6] (fun x i w2 => ∃ (q M : Nat), q ≤ N ∧ i = .int .i64 q ∧ M ≤ 5 * q ∧ OrdK w1 (k + 1) x M w2) (fun _ i _ => N - (intOf i).toNat)
      case atStart => exact ⟨0, 0, Nat.zero_le _, rfl, by omega, hmade⟩
      case round =>
        clear hmade
        obtain ⟨q, M, hq, rfl, hM, hK2⟩ := hrel
        obtain ⟨x, hx⟩ : ∃ x, x = u5 := ⟨_, rfl⟩
        subst hx
        by_cases hqN : q < N
        · have hbq : decide ((q : Int) < (N : Int)) = true := by simp; omega
          have hbq2 : (q : Int) < (N : Int) := by omega
          obtain ⟨l, hl⟩ : ∃ l, LL[q]? = some l := ⟨_, List.getElem?_eq_getElem (by rw [← HR.out.1, hvs]; exact hqN)⟩
          obtain ⟨v, hv, hir⟩ := HR.out.2 q l hl
          obtain ⟨B, c, rfl, hlc, hBr⟩ := hir.row
          have hlp := HO.out l (List.mem_of_getElem? hl)
          have hll : l.length = k := by rw [hlp.length_eq, nums_length]
          have HLP := Lib.hid hlp
          obtain ⟨g, cap, e1, hg1, hg2⟩ := hown.form (by omega)
          cases e1
          have hcell := hown.cellAt q (by omega)
          rw [hv] at hcell
          clear hv hl hlp hir
          rw [hll] at hBr hlc hcell
          go_wp2_with fail
          go_loopw [5, 7] (fun x i w2 => ∃ (t M : Nat), t ≤ k + 1 ∧ i = .int .i64 t ∧ M ≤ 5 * q + t ∧ OrdK w1 (k + 1) x M w2) (fun _ i _ => k + 1 - (intOf i).toNat)
          case atStart => exact ⟨0, M, by omega, rfl, by omega, hK2⟩
          case round =>
            clear hK2 hM
            obtain ⟨t, M, ht, rfl, hM, hK2⟩ := hrel
            obtain ⟨x, hx⟩ : ∃ x, x = u5 := ⟨_, rfl⟩
            subst hx
            by_cases htk : t ≤ k
            · have hbk : decide ((t : Int) ≤ (k : Int)) = true := by simp; omega
              have hbk2 : (t : Int) ≤ (k : Int) := by omega
              obtain ⟨vs2, LL2, hvs2, hown2, hrows2, hord2, hb2⟩ := hK2
              have HO2 := Lib.hid hord2
              have HR2 := Lib.hid hrows2
              have hc2 := (hb2.cell (p := ⟨g, q, none⟩) hg2).trans hcell
              have hg3 := Nat.lt_of_lt_of_le hg2 hb2.size
              have hB2 := hBr.later hb2
              have htc : t ≤ c := by omega
              have htc2 : (t : Int) ≤ (c : Int) := by omega
              have sz := hb2.size
              have z0 : Below wr.heap.size wr (wr.alloc (.cells #[] 3)) := (Below.refl _ _).alloc (Nat.le_refl _) _
              have hm0 : (wr.alloc (.cells #[] 3)).ownsRow wr.heap.size 3 1 (.slice (some ⟨wr.heap.size, 0, none⟩) 0 0) 0 (([] : List Int).map (Value.int .i64)) := World.ownsRow_made (base := wr.heap.size) (e := 3) (size := 1) wr #[] 0 (by simp) (by unfold maxLen; omega) (by simp)
              have hB3 := (hB2.later z0).rowI.take (m := t) (by omega)
              go_wp2_with (at_builtin; refine app_ints _ rfl (.tmp 28) (.tmp 34) rfl wr.heap.size _ 0 [] rfl hm0 _ t c (l.take t) rfl hB3 (by omega) (by simp) ?_)
              intro v8 w3 hown8 hgr8
              have z1 := z0.grown hgr8 (by simp) (fun k hk => (hm0.lt k hk).1)
              have z2 := z1.alloc z1.size (.cells #[.int .i64 k] 3)
              have hm1 : (w3.alloc (.cells #[.int .i64 k] 3)).ownsRow wr.heap.size 3 1 v8 t ((l.take t).map (Value.int .i64)) := by
                have h := hown8.alloc (.cells #[.int .i64 k] 3)
                rw [List.map_take]
                exact h
              have hi : RowI (w3.alloc (.cells #[.int .i64 k] 3)) (some ⟨w3.heap.size, 0, none⟩) 1 [(k : Int)] := (row_lit w3 [(k : Int)] 1 rfl).rowI
              have hs1 := z1.size
              clear hm0 hB3 hgr8
              go_wp2_with (at_builtin; refine app_ints _ rfl (.tmp 36) (.tmp 38) rfl wr.heap.size v8 t (l.take t) rfl hm1 (some ⟨w3.heap.size, 0, none⟩) 1 1 [(k : Int)] rfl hi (by omega) (by simp; omega) ?_)
              intro v9 w4 hown9 hgr9
              have z3 := z2.grown hgr9 z2.size (fun k hk => (hm1.lt k hk).1)
              have hs3 := z3.size
              have hc4 := (z3.cell (p := ⟨g, q, none⟩) hg3).trans hc2
              have hg4 := Nat.lt_of_lt_of_le hg3 z3.size
              have hB4 := hB2.later z3
              have hm2 : w4.ownsRow wr.heap.size 3 1 v9 (t + 1) ((l.take t ++ [(k : Int)]).map (Value.int .i64)) := by simpa using hown9
              clear hm1 hi hgr9 hc2 hown9
              have hB5 := row_drop (t := t) hB4 hlc
              go_wp2_with (at_builtin; refine app_ints _ rfl (.tmp 41) (.tmp 47) rfl wr.heap.size v9 (t + 1) (l.take t ++ [(k : Int)]) rfl hm2 _ _ _ (l.drop t) rfl hB5 (by omega) z3.size ?_)
              all_goals
                intro v10 w5 hown10 hgr10
                have z4 := z3.grown hgr10 z3.size (fun k hk => (hm2.lt k hk).1)
                have hown11 : w5.ownsRow wr.heap.size 3 1 v10 (t + 1 + (k - t)) ((l.take t ++ [(k : Int)] ++ l.drop t).map (Value.int .i64)) := by simpa using hown10
                obtain ⟨g10, c10, e10, _, _⟩ := hown11.form (by omega)
                subst e10
                have hir := own_isRow hown11 (by simp only [List.length_append, List.length_take, List.length_drop, List.length_singleton]; omega) (by omega)
                have hx5 := (own_later hown2 z4).alloc (.cells #[(Value.slice (some ⟨g10, 0, none⟩) (t + 1 + (k - t)) c10)] 23)
                have hb5 := (hb2.trans (z4.mono hb2.size)).alloc (hb2.trans (z4.mono hb2.size)).size (.cells #[(Value.slice (some ⟨g10, 0, none⟩) (t + 1 + (k - t)) c10)] 23)
                have hir6 := hir.later ((Below.refl _ _).alloc (Nat.le_refl _) (.cells #[(Value.slice (some ⟨g10, 0, none⟩) (t + 1 + (k - t)) c10)] 23))
                have hrows6 := (HR2.out.later z4).later ((Below.refl _ _).alloc (Nat.le_refl _) (.cells #[(Value.slice (some ⟨g10, 0, none⟩) (t + 1 + (k - t)) c10)] 23))
                have hone : ∀ u ∈ [(Value.slice (some ⟨g10, 0, none⟩) (t + 1 + (k - t)) c10)], u.oneCell' = true := fun u hu => by
                  obtain rfl : u = (Value.slice (some ⟨g10, 0, none⟩) (t + 1 + (k - t)) c10) := by simpa using hu
                  rfl
                have hnew : ∀ j u, ([(Value.slice (some ⟨g10, 0, none⟩) (t + 1 + (k - t)) c10)] : List Value)[j]? = some u → (w5.alloc (.cells #[(Value.slice (some ⟨g10, 0, none⟩) (t + 1 + (k - t)) c10)] 23)).cell? ((⟨w5.heap.size, 0, none⟩ : Addr).add j) = some u := fun j u hj => by
                  have := (Blk.new w5 23 #[(Value.slice (some ⟨g10, 0, none⟩) (t + 1 + (k - t)) c10)]).cell j
                  rw [Addr.add_lit, Nat.zero_add, this, ← hj, List.getElem?_toArray]
                obtain ⟨i0, hi, hz0, hz1, hz2⟩ := info_parts info23
                have HI := Lib.hid (And.intro hi (And.intro hz0 (And.intro hz1 hz2)))
                clear hm2 hB5 hgr10 hir hown10 hown11 hi hz0 hz1 hz2
                go_wp2_with (at_builtin; refine wpList_append_lies _ rfl (.tmp 40) (.tmp 49) 33 rfl w1.heap.size 23 i0 (.slice none 0 0) 1 24 Try.underlying33 HI.out.1 HI.out.2.1 HI.out.2.2.1 HI.out.2.2.2 rfl (by decide) x M vs2 rfl hx5 ⟨w5.heap.size, 0, none⟩ 1 1 [(Value.slice (some ⟨g10, 0, none⟩) (t + 1 + (k - t)) c10)] rfl rfl hnew hone (by omega) (by unfold maxLen; omega) (by omega) hb5.size _ rfl ?_)
                intro g6 cap6 w6 hown6 hgr6 _ _
                have hb6 := hb5.grown hgr6 hb5.size (fun k hk => (hx5.lt k hk).1)
                have hrows7 : Rows w6 (vs2 ++ [(Value.slice (some ⟨g10, 0, none⟩) (t + 1 + (k - t)) c10)]) (LL2 ++ [l.take t ++ [(k : Int)] ++ l.drop t]) :=
                  Rows.snoc ⟨hrows6.1, fun j l' hj => by obtain ⟨v', h1, h2⟩ := hrows6.2 j l' hj; exact ⟨v', h1, h2.kept hx5 hgr6⟩⟩ (hir6.kept hx5 hgr6)
                have hK7 : OrdK w1 (k + 1) (.slice (some ⟨g6, 0, none⟩) (M + 1) cap6) (M + 1) w6 := ⟨vs2 ++ [(Value.slice (some ⟨g10, 0, none⟩) (t + 1 + (k - t)) c10)], LL2 ++ [l.take t ++ [(k : Int)] ++ l.drop t], by simp [hvs2], hown6, hrows7, fun o ho => by
                  rcases List.mem_append.1 ho with h | h
                  · exact HO2.out o h
                  · obtain rfl : o = l.take t ++ [(k : Int)] ++ l.drop t := by simpa using h
                    exact insert_perm HLP.out, hb6⟩
                have HK7 := Lib.hid hK7
                clear hx5 hir6 hrows6 hone hnew HI hgr6 hrows7 hK7 hown6
                go_wp2_with fail
                go_roundw
                case rel => exact ⟨t + 1, M + 1, by omega, by go_num, by omega, HK7.out⟩
                case measure => simp [intOf]; omega
            · obtain rfl : t = k + 1 := by omega
              have hbk : decide (((k + 1 : Nat) : Int) ≤ (k : Int)) = false := by simp; omega
              have hbk2 : ¬ ((k + 1 : Nat) : Int) ≤ (k : Int) := by omega
              have HK2 := Lib.hid hK2
              obtain ⟨k1, hk1⟩ : ∃ k1, k1 = k + 1 := ⟨_, rfl⟩
              rw [← hk1] at hbk hbk2 ⊢
              clear hK2 hk1
              go_wp2_with fail
              go_roundw
              case rel => exact ⟨q + 1, M, by omega, by go_num, by omega, HK2.out⟩
              case measure => simp [intOf]; omega
        · obtain rfl : q = N := by omega
          have hbq : decide ((q : Int) < (q : Int)) = false := by simp
          have HK2 := Lib.hid hK2
          have hpw : M ≤ 5 ^ (k + 1) := by rw [Nat.pow_succ]; omega
          have HPW := Lib.hid hpw
          clear hK2 hpw hN hM
          go_wp2_with fail
          go_roundw
          case rel =>
            obtain ⟨vs2, LL2, h1, h2, h3, h4, h5⟩ := HK2.out
            exact ⟨k + 1, M, by omega, by go_num, HPW.out, vs2, LL2, h1, h2.mono hbw.size, h3, h4, hbw.trans (h5.mono hbw.size)⟩
          case measure => simp [intOf]; omega
    · obtain rfl : k = n := by omega
      have hbt : decide ((k : Int) < (k : Int)) = false := by simp
      clear hp
      go_wp2_with fail
      go_ret
      exact ⟨_, N, rfl, hN2, hK⟩
end Go.Proofs.Ytnfcigbiebbjdaa
namespace Go.Proofs.Ytnfcigbiebbjdaa
open Go.RowKit

def CutR (w : World) (l : List Int) (e : Ending) (w' : World) : Prop := ∃ v, e = .returned v ∧ w'.ownsRow w.heap.size 3 1 v l.length (l.map (Value.int .i64)) ∧ Below w.heap.size w w'
theorem CutR.of {w w1 : World} {l : List Int} {k : Nat} {v : Value} (hl : l.length = k) (h1 : w1.ownsRow w.heap.size 3 1 v k (l.map (Value.int .i64))) (h2 : (w.alloc (.cells #[] 3)).grownBy w1 (some w.heap.size)) : CutR w l (.returned v) w1 :=
  ⟨v, rfl, by rw [hl]; exact h1, ((Below.refl _ _).alloc (Nat.le_refl _) _).grown h2 (by simp) (fun q hq => by simp at hq; omega)⟩
set_option maxHeartbeats 2000000 in
theorem cut_any (A : Option Addr) (n c q : Nat) (l : List Int) (w : World) (rA : RowI w A n l) (hc : n ≤ c) (hnil : A = none → c = 0) (hq : q ≤ 100) :
    Calls Try.prog 40 #[.slice A n c, .int .i64 q] w (CutR w (l.take q)) := by
  have hb0 : Below w.heap.size w (w.alloc (.cells #[] 3)) := (Below.refl _ _).alloc (Nat.le_refl _) _
  have hmade : (w.alloc (.cells #[] 3)).ownsRow w.heap.size 3 1 (.slice (some ⟨w.heap.size, 0, none⟩) 0 0) 0 (([] : List Int).map (Value.int .i64)) := World.ownsRow_made (base := w.heap.size) (e := 3) (size := 1) w #[] 0 (by simp) (by unfold maxLen; omega) (by simp)
  have hll := Lib.hid rA.1
  have rA1 := rA.later hb0
  clear rA hb0
  go_enter Try.func40, Try.ntmps40
  rcases Nat.lt_trichotomy n q with h | h | h
  · skip
    have HC : Hid ((l.take q).length = n) := by show _ = _; rw [List.length_take]; have := hll.out; omega
    rcases A with _ | a
    · have h0 := hnil rfl
      have hn0 : n = 0 := by omega
      subst h0 hn0
      have hT := rA1.take (m := 0) (Nat.le_refl _)
      have hi : (0 : Int) < (q : Int) := by omega
      go_wp2_with (at_builtin; refine app_ints _ rfl (.tmp 5) (.tmp 11) rfl w.heap.size _ 0 [] rfl hmade none 0 0 (l.take 0) rfl hT (by omega) (by simp) ?_)
      intro v w1 hown hgr
      have hnl : l = [] := List.eq_nil_of_length_eq_zero hll.out
      have hown2 : w1.ownsRow w.heap.size 3 1 v 0 ((l.take q).map (Value.int .i64)) := by rw [hnl]; simpa using hown
      have hfin := CutR.of HC.out hown2 (by simpa [Value.ownBlock] using hgr)
      have HFin := Lib.hid hfin
      clear hfin hown hown2 hgr
      go_wp2_with fail
      go_ret
      exact HFin.out
    · have hT := rA1.take (m := n) (by omega)
      have hKc : n ≤ c := by omega
      have hKci : (n : Int) ≤ (c : Int) := by omega
      have hi : (n : Int) < (q : Int) := by omega
      have e1 : Hid (l.take q = l.take n) := by
        show _ = _
        rw [List.take_of_length_le (by have := hll.out; omega), List.take_of_length_le (by have := hll.out; omega)]
      go_wp2_with (at_builtin; refine app_ints _ rfl (.tmp 5) (.tmp 11) rfl w.heap.size _ 0 [] rfl hmade (some a) n c (l.take n) rfl hT (by omega) (by simp) ?_)
      all_goals
        intro v w1 hown hgr
        have hown2 : w1.ownsRow w.heap.size 3 1 v n ((l.take q).map (Value.int .i64)) := by rw [e1.out]; simpa using hown
        have hfin := CutR.of HC.out hown2 (by simpa [Value.ownBlock] using hgr)
        have HFin := Lib.hid hfin
        clear hfin hown hown2 hgr
        go_wp2_with fail
        go_ret
        exact HFin.out
  · subst h
    have HC : Hid ((l.take n).length = n) := by show _ = _; rw [List.length_take]; have := hll.out; omega
    rcases A with _ | a
    · have h0 := hnil rfl
      have hn0 : n = 0 := by omega
      subst h0 hn0
      have hT := rA1.take (m := 0) (Nat.le_refl _)
      skip
      go_wp2_with (at_builtin; refine app_ints _ rfl (.tmp 5) (.tmp 11) rfl w.heap.size _ 0 [] rfl hmade none 0 0 (l.take 0) rfl hT (by omega) (by simp) ?_)
      intro v w1 hown hgr
      have hnl : l = [] := List.eq_nil_of_length_eq_zero hll.out
      have hown2 : w1.ownsRow w.heap.size 3 1 v 0 ((l.take 0).map (Value.int .i64)) := by rw [hnl]; simpa using hown
      have hfin := CutR.of HC.out hown2 (by simpa [Value.ownBlock] using hgr)
      have HFin := Lib.hid hfin
      clear hfin hown hown2 hgr
      go_wp2_with fail
      go_ret
      exact HFin.out
    · have hT := rA1.take (m := n) (by omega)
      have hKc : n ≤ c := by omega
      have hKci : (n : Int) ≤ (c : Int) := by omega
      skip
      go_wp2_with (at_builtin; refine app_ints _ rfl (.tmp 5) (.tmp 11) rfl w.heap.size _ 0 [] rfl hmade (some a) n c (l.take n) rfl hT (by omega) (by simp) ?_)
      all_goals
        intro v w1 hown hgr
        have hown2 : w1.ownsRow w.heap.size 3 1 v n ((l.take n).map (Value.int .i64)) := by simpa using hown
        have hfin := CutR.of HC.out hown2 (by simpa [Value.ownBlock] using hgr)
        have HFin := Lib.hid hfin
        clear hfin hown hown2 hgr
        go_wp2_with fail
        go_ret
        exact HFin.out
  · skip
    have HC : Hid ((l.take q).length = q) := by show _ = _; rw [List.length_take]; have := hll.out; omega
    rcases A with _ | a
    · have h0 := hnil rfl
      exfalso; omega
    · have hT := rA1.take (m := q) (by omega)
      have hKc : q ≤ c := by omega
      have hKci : (q : Int) ≤ (c : Int) := by omega
      have hi : (q : Int) < (n : Int) := by omega
      go_wp2_with (at_builtin; refine app_ints _ rfl (.tmp 5) (.tmp 11) rfl w.heap.size _ 0 [] rfl hmade (some a) q c (l.take q) rfl hT (by omega) (by simp) ?_)
      all_goals
        intro v w1 hown hgr
        have hown2 : w1.ownsRow w.heap.size 3 1 v q ((l.take q).map (Value.int .i64)) := by simpa using hown
        have hfin := CutR.of HC.out hown2 (by simpa [Value.ownBlock] using hgr)
        have HFin := Lib.hid hfin
        clear hfin hown hown2 hgr
        go_wp2_with fail
        go_ret
        exact HFin.out
end Go.Proofs.Ytnfcigbiebbjdaa
namespace Go.Proofs.Ytnfcigbiebbjdaa
open Go.RowKit

/-- Five cells are a job, wherever they lie. -/
def JobAny (w : World) (a : Addr) (j : Jb) : Prop :=
  w.cell? a = some (.int .i64 j.work) ∧ w.cell? ⟨a.block, a.off + 1, none⟩ = some (.int .i64 j.rel) ∧ w.cell? ⟨a.block, a.off + 2, none⟩ = some (.int .i64 j.due) ∧ w.cell? ⟨a.block, a.off + 3, none⟩ = some (.int .i64 j.wt) ∧
  ∃ B m c, w.cell? ⟨a.block, a.off + 4, none⟩ = some (.slice B m c) ∧ RowI w B m j.after ∧ m ≤ c ∧ (B = none → c = 0)
/-- A slice of jobs, wherever it starts. -/
def JobsA (w : World) (A : Option Addr) (n : Nat) (l : List Jb) : Prop :=
  l.length = n ∧ (0 < n → ∃ a : Addr, A = some a ∧ a.block < w.heap.size ∧ ∀ (k : Nat) (j : Jb), l[k]? = some j → JobAny w (a.add (k * 5)) j)
theorem JobAny.later {w w' : World} {a : Addr} {j : Jb} (h : JobAny w a j) (hg : a.block < w.heap.size) (hb : Below w.heap.size w w') : JobAny w' a j := by
  obtain ⟨h0, h1, h2, h3, B, m, c, h4, h5, h6, h7⟩ := h
  exact ⟨(hb.cell (p := a) hg).trans h0, (hb.cell (p := ⟨a.block, a.off + 1, none⟩) hg).trans h1, (hb.cell (p := ⟨a.block, a.off + 2, none⟩) hg).trans h2, (hb.cell (p := ⟨a.block, a.off + 3, none⟩) hg).trans h3, B, m, c, (hb.cell (p := ⟨a.block, a.off + 4, none⟩) hg).trans h4, h5.later hb, h6, h7⟩
theorem JobsA.later {w w' : World} {A : Option Addr} {n : Nat} {l : List Jb} (h : JobsA w A n l) (hb : Below w.heap.size w w') : JobsA w' A n l :=
  ⟨h.1, fun hn => by
    obtain ⟨a, e, hg, hc⟩ := h.2 hn
    exact ⟨a, e, Nat.lt_of_lt_of_le hg hb.size, fun k j hk => (hc k j hk).later (by rw [add_block]; exact hg) hb⟩⟩
theorem JobsA.at_ {w : World} {A : Option Addr} {n k : Nat} {l : List Jb} (h : JobsA w A n l) (hk : k < n) : ∃ a j, A = some a ∧ a.block < w.heap.size ∧ l[k]? = some j ∧ JobAny w (a.add (k * 5)) j := by
  obtain ⟨a, e, hg, hc⟩ := h.2 (by omega)
  have hl : k < l.length := by have := h.1; omega
  exact ⟨a, l[k], e, hg, List.getElem?_eq_getElem hl, hc k _ (List.getElem?_eq_getElem hl)⟩

/-- A value that is the call's own slice of integers. -/
def IsR (w : World) (v : Value) (l : List Int) : Prop := w.ownsRow 0 3 1 v l.length (l.map (Value.int .i64))
theorem IsR.later {w w' : World} {v : Value} {l : List Int} (h : IsR w v l) (hb : Below w.heap.size w w') : IsR w' v l := own_later h hb
theorem IsR.row {w : World} {v : Value} {l : List Int} (h : IsR w v l) : ∃ B c, v = .slice B l.length c ∧ RowH w B l.length l := by
  obtain ⟨B, c, e⟩ := own_slice h
  unfold IsR at h
  rw [e] at h
  exact ⟨B, c, e, own_rowH h⟩
theorem IsR.kept {w w' : World} {v x : Value} {l : List Int} {base M s : Nat} {t : TypeId} {vs : List Value} (h : IsR w v l) (hx : w.ownsRow base t s x M vs) (ht : t ≠ 3) (hg : w.grownBy w' x.ownBlock) : IsR w' v l := by
  refine World.ownsRow.kept h hg ?_
  cases hv : v.ownBlock with
  | none => exact .inl rfl
  | some g =>
    refine .inr fun he => ?_
    rcases h.2 with ⟨h1, _⟩ | ⟨g', cap', cur, h1, _, h3, _⟩
    · rw [h1] at hv; cases hv
    · rw [h1] at hv
      simp only [Value.ownBlock, Option.some.injEq] at hv
      subst hv
      rcases hx.2 with ⟨h4, _⟩ | ⟨gx, capx, curx, h4, _, h5, _⟩
      · subst h4; cases he
      · subst h4
        simp only [Value.ownBlock, Option.some.injEq] at he
        subst he
        rw [h3] at h5
        injection h5 with h6
        injection h6 with _ h7
        exact ht h7.symm
def Afters (w : World) (vs : List Value) (LL : List (List Int)) : Prop := vs.length = LL.length ∧ ∀ (k : Nat) (l : List Int), LL[k]? = some l → ∃ v, vs[k]? = some v ∧ IsR w v l
theorem Afters.snoc {w : World} {vs : List Value} {LL : List (List Int)} {v : Value} {l : List Int} (h : Afters w vs LL) (hv : IsR w v l) : Afters w (vs ++ [v]) (LL ++ [l]) := by
  refine ⟨by simp [h.1], fun k l' hk => ?_⟩
  rcases Nat.lt_trichotomy k LL.length with hlt | he | hgt
  · rw [List.getElem?_append_left hlt] at hk
    obtain ⟨v', h1, h2⟩ := h.2 k l' hk
    exact ⟨v', by rw [List.getElem?_append_left (by rw [h.1]; exact hlt)]; exact h1, h2⟩
  · subst he
    rw [List.getElem?_append_right (Nat.le_refl _), Nat.sub_self] at hk
    obtain rfl : l = l' := by simpa using hk
    exact ⟨v, by rw [← h.1, List.getElem?_append_right (Nat.le_refl _), Nat.sub_self]; rfl, hv⟩
  · rw [List.getElem?_eq_none (by simp; omega)] at hk
    cases hk
theorem Afters.mono {w w' : World} {vs : List Value} {LL : List (List Int)} (h : Afters w vs LL) (f : ∀ v l, IsR w v l → IsR w' v l) : Afters w' vs LL :=
  ⟨h.1, fun k l hk => by obtain ⟨v, hv, hr⟩ := h.2 k l hk; exact ⟨v, hv, f v l hr⟩⟩
def jcells (j : Jb) (v : Value) : List Value := [.int .i64 j.work, .int .i64 j.rel, .int .i64 j.due, .int .i64 j.wt, v]
def jflat : List Jb → List Value → List Value
  | j :: js, v :: vs => jcells j v ++ jflat js vs
  | _, _ => []
theorem jflat_at : ∀ {js : List Jb} {vs : List Value} {k i : Nat} {j : Jb} {v : Value}, js[k]? = some j → vs[k]? = some v → i < 5 → (jflat js vs)[k * 5 + i]? = (jcells j v)[i]?
  | [], _, k, i, j, v, h, _, _ => by simp at h
  | _ :: _, [], k, i, j, v, _, h, _ => by simp at h
  | x :: js, y :: vs, 0, i, j, v, h1, h2, hi => by
    simp at h1 h2
    subst h1 h2
    rw [Nat.zero_mul, Nat.zero_add, jflat, List.getElem?_append_left (by simpa [jcells] using hi)]
  | x :: js, y :: vs, k + 1, i, j, v, h1, h2, hi => by
    rw [jflat, List.getElem?_append_right (by simp [jcells]; omega), show (k + 1) * 5 + i - (jcells x y).length = k * 5 + i by simp [jcells]; omega]
    exact jflat_at (by simpa using h1) (by simpa using h2) hi
theorem jflat_snoc : ∀ {js : List Jb} {vs : List Value} {j : Jb} {v : Value}, js.length = vs.length → jflat (js ++ [j]) (vs ++ [v]) = jflat js vs ++ jcells j v
  | [], [], j, v, _ => by simp [jflat]
  | [], _ :: _, j, v, h => by simp at h
  | _ :: _, [], j, v, h => by simp at h
  | x :: js, y :: vs, j, v, h => by
    simp only [List.cons_append, jflat]
    rw [jflat_snoc (by simpa using h), List.append_assoc]
theorem own_jobs {w : World} {base n c : Nat} {A : Option Addr} {js : List Jb} {vs : List Value} (h : w.ownsRow base 43 5 (.slice A n c) n (jflat js vs)) (hn : js.length = n) (ha : Afters w vs (js.map Jb.after)) : JobsH w A n js := by
  refine ⟨hn, fun h0 => ?_⟩
  obtain ⟨g, cap, e, _, hg⟩ := h.form h0
  injection e with e1 e2 e3
  subst e1 e3
  refine ⟨g, rfl, hg, fun k j hk => ?_⟩
  have hkn : k < n := by have := (List.getElem?_eq_some_iff.1 hk).1; omega
  obtain ⟨v, hv, hr⟩ := ha.2 k j.after (by rw [List.getElem?_map, hk]; rfl)
  obtain ⟨B, c', e, hrow⟩ := hr.row
  subst e
  have hc := fun i (hi : i < 5) => (h.cellAt (k * 5 + i) (by omega)).trans (jflat_at (i := i) hk hv hi)
  exact ⟨hc 0 (by omega), hc 1 (by omega), hc 2 (by omega), hc 3 (by omega), B, _, c', hc 4 (by omega), hrow⟩
/-- A job with what it comes after cut short. -/
def cutJ (j : Jb) : Jb := ⟨j.work, j.rel, j.due, j.wt, j.after.take 70⟩
def fewN (n q : Nat) : Nat := if n ≤ 64 then min n q else 65
theorem info43 : (Try.prog.info? 43).map (fun i => (i.zero, i.size, i.bytes)) = some (some (.agg #[.int .i64 0, .int .i64 0, .int .i64 0, .int .i64 0, .slice none 0 0]), 5, 56) := by kernel_rfl
def FewK (w0 : World) (l : List Jb) (k : Nat) (v : Value) (wr : World) : Prop :=
  ∃ vs : List Value, wr.ownsRow w0.heap.size 43 5 v k (jflat ((l.take k).map cutJ) vs) ∧ Afters wr vs (((l.take k).map cutJ).map Jb.after) ∧ Below w0.heap.size w0 wr
def FewR (w : World) (js : List Jb) (e : Ending) (w' : World) : Prop := ∃ A c, e = .returned (.slice A js.length c) ∧ JobsH w' A js.length js ∧ Below w.heap.size w w'
end Go.Proofs.Ytnfcigbiebbjdaa
namespace Go.Proofs.Ytnfcigbiebbjdaa
open Go.RowKit

theorem app_job (w : World) {ops : Array Oper} {rest : List Oper} {o : Oper} {a : Act} {Q : Exit → Act → World → Prop} (hgd : o.guard = none) (s x : Operand)
    (ho : o.op = .call { callee := .builtin .append, args := #[s, x], argTypes := #[22, 22] }) (base : Nat) (v : Value) (n : Nat) (xs : List Value) (hs : a.eval s = v) (hown : w.ownsRow base 43 5 v n xs)
    (ad : Addr) (c : Nat) (news : List Value) (hx : a.eval x = .slice (some ad) 1 c) (hl : news.length = 5) (hnews : ∀ j u, news[j]? = some u → w.cell? (ad.add j) = some u) (h1 : ∀ u ∈ news, u.oneCell' = true) (hn : n ≤ 1000) (hbase : base ≤ w.heap.size)
    (h : ∀ v' w', w'.ownsRow base 43 5 v' (n + 1) (xs ++ news) → w.grownBy w' v.ownBlock → wpList Try.prog ops Q rest (a.put o.dst v') w') : wpList Try.prog ops Q (o :: rest) a w := by
  obtain ⟨i0, hi, hz0, hz1, hz2⟩ := info_parts info43
  refine wpList_append_lies w hgd s x 22 ho base 43 i0 _ 5 56 Try.underlying22 hi hz0 hz1 hz2 rfl (by decide) v n _ hs hown ad 1 c news hx (by rw [hl]) hnews h1 (by decide) (by unfold maxLen; omega) (by omega) hbase _ rfl ?_
  intro g cap w' hown' hgr _ _
  exact h _ _ hown' hgr
/-- What the round leaves. -/
theorem FewK.step {w0 w3 w4 : World} {l : List Jb} {k : Nat} {j : Jb} {v v' vj : Value} {vs : List Value} (hj : l[k]? = some j)
    (hown : w3.ownsRow w0.heap.size 43 5 v k (jflat ((l.take k).map cutJ) vs)) (haft : Afters w3 vs (((l.take k).map cutJ).map Jb.after)) (hv : IsR w3 vj (cutJ j).after) (hb : Below w0.heap.size w0 w3)
    (hnew : w4.ownsRow w0.heap.size 43 5 v' (k + 1) (jflat ((l.take k).map cutJ) vs ++ jcells (cutJ j) vj)) (hgr : w3.grownBy w4 v.ownBlock) : FewK w0 l (k + 1) v' w4 := by
  have e : (l.take (k + 1)).map cutJ = (l.take k).map cutJ ++ [cutJ j] := by
    rw [List.take_add_one, hj, List.map_append]; rfl
  refine ⟨vs ++ [vj], ?_, ?_, hb.grown hgr hb.size (fun q hq => (hown.lt q hq).1)⟩
  · rw [e, jflat_snoc (by have := haft.1; simpa using this.symm)]
    exact hnew
  · rw [e, List.map_append]
    exact (haft.snoc hv).mono fun v l h => h.kept hown (by decide) hgr

set_option maxRecDepth 100000 in
set_option maxHeartbeats 4000000 in
theorem few_any (A : Option Addr) (n c q : Nat) (l : List Jb) (w : World) (rA : JobsA w A n l) (hc : n ≤ c) (hnil : A = none → c = 0) (hq : q ≤ 64) :
    Calls Try.prog 16 #[.slice A n c, .int .i64 q] w (FewR w ((l.take (fewN n q)).map cutJ)) := by
  have hb0 : Below w.heap.size w (w.alloc (.cells #[] 43)) := (Below.refl _ _).alloc (Nat.le_refl _) _
  have hmade : (w.alloc (.cells #[] 43)).ownsRow w.heap.size 43 5 (.slice (some ⟨w.heap.size, 0, none⟩) 0 0) 0 (jflat ((l.take 0).map cutJ) []) := World.ownsRow_made (base := w.heap.size) (e := 43) (size := 5) w #[] 0 (by simp) (by unfold maxLen; omega) (by simp)
  have hK0 : FewK w l 0 (.slice (some ⟨w.heap.size, 0, none⟩) 0 0) (w.alloc (.cells #[] 43)) := ⟨[], hmade, ⟨by simp, fun k l h => by simp at h⟩, hb0⟩
  have HK0 := Lib.hid hK0
  have hll := Lib.hid rA.1
  clear hb0 hmade hK0
  go_enter Try.func16, Try.ntmps16
  by_cases h64 : n ≤ 64
  · have d64 : decide ((n : Int) ≤ 64) = true := by simp; omega
    have d64' : (n : Int) ≤ 64 := by omega
    rcases Nat.lt_trichotomy n q with h | h | h
    · have hKc : n ≤ c := hc
      have hKci : (n : Int) ≤ (c : Int) := by omega
      have hi : (n : Int) < (q : Int) := by omega
      rcases A with _ | a
      · have h0 := hnil rfl
        have hn0 : n = 0 := by omega
        subst h0 hn0
        go_wp2_with fail
        go_loopw [5, 6] (fun v i wr => ∃ k : Nat, k ≤ 0 ∧ i = .int .i64 k ∧ Hid (FewK w l k v wr)) (fun _ i _ => 100 - (intOf i).toNat)
        case atStart => exact ⟨0, Nat.zero_le _, rfl, HK0⟩
        case round =>
          obtain ⟨k, hk, rfl, ⟨vs, hown, haft, hb⟩⟩ := hrel
          by_cases hlt : k < 0
          · exfalso; omega
          · have ek : 0 = k := by omega
            subst ek
            have t1 : decide ((0 : Int) < (0 : Int)) = false := by simp
            have eN : fewN 0 q = 0 := by unfold fewN; rw [if_pos (by omega)]; omega
            obtain ⟨A', c', rfl⟩ := own_slice hown
            have hR := own_jobs hown (by simp) haft
            clear hown haft HK0
            go_wp2_with fail
            go_ret
            refine ⟨A', c', ?_, ?_, hb⟩
            · simp only [List.length_map, List.length_take, hll.out, eN]
              (try rw [Nat.min_eq_left (by omega)]); (try rfl)
            · simp only [List.length_map, List.length_take, hll.out, eN]
              rw [Nat.min_eq_left (by omega)]
              exact hR
      · skip
        go_wp2_with fail
        go_loopw [5, 6] (fun v i wr => ∃ k : Nat, k ≤ n ∧ i = .int .i64 k ∧ Hid (FewK w l k v wr)) (fun _ i _ => 100 - (intOf i).toNat)
        case atStart => exact ⟨0, Nat.zero_le _, rfl, HK0⟩
        case round =>
          obtain ⟨k, hk, rfl, ⟨vs, hown, haft, hb⟩⟩ := hrel
          by_cases hlt : k < n
          · have t1 : decide ((k : Int) < (n : Int)) = true := by simp; omega
            have t2 : decide ((k : Int) ≤ 64) = true := by simp; omega
            have t3 : (k : Int) < (n : Int) := by omega
            have t4 : (k : Int) ≤ 64 := by omega
            obtain ⟨ad, j, e1, hg, hj, h0, h1, h2, h3, B, m, cj, h4, h5, h6, h7⟩ := (rA.later hb).at_ (show k < n by omega)
            cases e1
            obtain ⟨V, cv, rfl⟩ := own_slice hown
            have hbA : Below wr.heap.size wr (wr.alloc (.cells #[.int .i64 j.work, .int .i64 j.rel, .int .i64 j.due, .int .i64 j.wt, .slice B m cj] 43)) := (Below.refl _ _).alloc (Nat.le_refl _) _
            have M := Lib.hid (cut_any B m cj 70 j.after (wr.alloc (.cells #[.int .i64 j.work, .int .i64 j.rel, .int .i64 j.due, .int .i64 j.wt, .slice B m cj] 43)) (h5.later hbA) h6 h7 (by omega))
            have hbA2 := Lib.hid hbA
            clear hbA
            go_wp2_with fail
            refine M.out.mono ?_
            rintro e w2 ⟨vj, rfl, hvj, hb2⟩
            clear M h0 h1 h2 h3 h4 h5
            have g0 : w2.cell? ⟨wr.heap.size, 0, none⟩ = some (.int .i64 j.work) := (hb2.cell (p := ⟨wr.heap.size, 0, none⟩) (by simp)).trans (by simp)
            have g1 : w2.cell? ⟨wr.heap.size, 1, none⟩ = some (.int .i64 j.rel) := (hb2.cell (p := ⟨wr.heap.size, 1, none⟩) (by simp)).trans (by simp)
            have g2 : w2.cell? ⟨wr.heap.size, 2, none⟩ = some (.int .i64 j.due) := (hb2.cell (p := ⟨wr.heap.size, 2, none⟩) (by simp)).trans (by simp)
            have g3 : w2.cell? ⟨wr.heap.size, 3, none⟩ = some (.int .i64 j.wt) := (hb2.cell (p := ⟨wr.heap.size, 3, none⟩) (by simp)).trans (by simp)
            have g4 : w2.cell? ⟨wr.heap.size, 4, none⟩ = some (.slice B m cj) := (hb2.cell (p := ⟨wr.heap.size, 4, none⟩) (by simp)).trans (by simp)
            have f4 : w2.frozen? ⟨wr.heap.size, 4, none⟩ = false := (hb2.frozen (p := ⟨wr.heap.size, 4, none⟩) (by simp)).trans (by simp)
            have hbw : Below wr.heap.size wr (w2.setCell ⟨wr.heap.size, 4, none⟩ vj) := (hbA2.out.trans (hb2.mono (by simp))).setCell (p := ⟨wr.heap.size, 4, none⟩) (Nat.le_refl _) _
            have hvj3 : IsR (w2.setCell ⟨wr.heap.size, 4, none⟩ vj) vj (cutJ j).after := by
              refine World.ownsRow.mono (World.ownsRow.kept hvj (only_setCell (g := wr.heap.size) (World.grownBy.refl _ _) (p := ⟨wr.heap.size, 4, none⟩) (.inl rfl) _) ?_) (Nat.zero_le _)
              cases hx : vj.ownBlock with
              | none => exact .inl rfl
              | some gx =>
                have := (hvj.lt gx hx).1
                simp at this
                exact .inr (by simp; omega)
            obtain ⟨B2, c2, e2⟩ := own_slice hvj3
            have hown3 := own_later hown hbw
            have haft3 := haft.mono (w' := w2.setCell ⟨wr.heap.size, 4, none⟩ vj) (fun v l h => h.later hbw)
            have hb3 := hb.trans (hbw.mono hb.size)
            clear hvj hb2 hbw hown haft hb hbA2 hg
            subst e2
            have k0 : (w2.setCell ⟨wr.heap.size, 4, none⟩ (.slice B2 (cutJ j).after.length c2)).cell? ⟨wr.heap.size, 0, none⟩ = some (.int .i64 j.work) := (World.cell?_setCell_other _ _ _ _ (by simp)).trans g0
            have k1 : (w2.setCell ⟨wr.heap.size, 4, none⟩ (.slice B2 (cutJ j).after.length c2)).cell? ⟨wr.heap.size, 1, none⟩ = some (.int .i64 j.rel) := (World.cell?_setCell_other _ _ _ _ (by simp)).trans g1
            have k2 : (w2.setCell ⟨wr.heap.size, 4, none⟩ (.slice B2 (cutJ j).after.length c2)).cell? ⟨wr.heap.size, 2, none⟩ = some (.int .i64 j.due) := (World.cell?_setCell_other _ _ _ _ (by simp)).trans g2
            have k3 : (w2.setCell ⟨wr.heap.size, 4, none⟩ (.slice B2 (cutJ j).after.length c2)).cell? ⟨wr.heap.size, 3, none⟩ = some (.int .i64 j.wt) := (World.cell?_setCell_other _ _ _ _ (by simp)).trans g3
            have k4 : (w2.setCell ⟨wr.heap.size, 4, none⟩ (.slice B2 (cutJ j).after.length c2)).cell? ⟨wr.heap.size, 4, none⟩ = some (.slice B2 (cutJ j).after.length c2) := World.cell?_setCell_same' _ _ _ (by rw [g4]; rfl)
            clear g0 g1 g2 g3
            go_upto_region 9 with (fail)
            revert hvj3 hown3 haft3 hb3 k0 k1 k2 k3 k4
            generalize (w2.setCell ⟨wr.heap.size, 4, none⟩ (.slice B2 (cutJ j).after.length c2)) = w3
            intro hvj3 hown3 haft3 hb3 k0 k1 k2 k3 k4
            clear g4 f4
            generalize (cutJ j).after.length = nj at *
            have hbN : Below w3.heap.size w3 (w3.alloc (.cells #[.int .i64 j.work, .int .i64 j.rel, .int .i64 j.due, .int .i64 j.wt, .slice B2 nj c2] 43)) := (Below.refl _ _).alloc (Nat.le_refl _) _
            have hownN := own_later hown3 hbN
            have haftN := haft3.mono (w' := w3.alloc (.cells #[.int .i64 j.work, .int .i64 j.rel, .int .i64 j.due, .int .i64 j.wt, .slice B2 nj c2] 43)) (fun v l h => h.later hbN)
            have hvjN := hvj3.later hbN
            have hbN2 := hb3.trans (hbN.mono hb3.size)
            have HF := Lib.hid (fun v' w4 => FewK.step (v' := v') (w4 := w4) hj hownN haftN hvjN hbN2)
            have hownH := Lib.hid hownN
            have hsz : w.heap.size ≤ w3.heap.size := hb3.size
            clear hownN haftN hvjN hbN2 hbN hvj3 hown3 haft3 hb3
            go_wp2_with (at_builtin; refine app_job _ rfl (.tmp 36) (.tmp 38) rfl w.heap.size (.slice V k cv) k _ rfl hownH.out ⟨w3.heap.size, 0, none⟩ 1 (jcells (cutJ j) (.slice B2 nj c2)) rfl rfl (by intro i u hu; simp only [Addr.add_lit, Nat.zero_add]; have hi : i < 5 := (List.getElem?_eq_some_iff.1 hu).1; rcases i with _ | _ | _ | _ | _ | i <;> simp [jcells, cutJ] at hu ⊢ <;> first | omega | exact hu) (by simp [jcells, Value.oneCell']) (by omega) (by simp; omega) ?_)
            intro v' w4 hnew hgr
            have HK := Lib.hid (HF.out v' w4 (by rw [List.map_take]; exact hnew) hgr)
            clear HF hnew hgr hownH
            go_wp2_with fail
            go_roundw
            case rel => exact ⟨k + 1, by omega, by go_num, HK⟩
            case measure => simp [intOf]; omega
          · have ek : n = k := by omega
            subst ek
            have t1 : decide ((n : Int) < (n : Int)) = false := by simp
            have eN : fewN n q = n := by unfold fewN; rw [if_pos (by omega)]; omega
            obtain ⟨A', c', rfl⟩ := own_slice hown
            have hR := own_jobs hown (by simp [hll.out]) haft
            clear hown haft HK0
            go_wp2_with fail
            go_ret
            refine ⟨A', c', ?_, ?_, hb⟩
            · simp only [List.length_map, List.length_take, hll.out, eN]
              (try rw [Nat.min_eq_left (by omega)]); (try rfl)
            · simp only [List.length_map, List.length_take, hll.out, eN]
              rw [Nat.min_eq_left (by omega)]
              exact hR
    · subst h
      have hKc : n ≤ c := hc
      have hKci : (n : Int) ≤ (c : Int) := by omega
      rcases A with _ | a
      · have h0 := hnil rfl
        have hn0 : n = 0 := by omega
        subst h0 hn0
        go_wp2_with fail
        go_loopw [5, 6] (fun v i wr => ∃ k : Nat, k ≤ 0 ∧ i = .int .i64 k ∧ Hid (FewK w l k v wr)) (fun _ i _ => 100 - (intOf i).toNat)
        case atStart => exact ⟨0, Nat.zero_le _, rfl, HK0⟩
        case round =>
          obtain ⟨k, hk, rfl, ⟨vs, hown, haft, hb⟩⟩ := hrel
          by_cases hlt : k < 0
          · exfalso; omega
          · have ek : 0 = k := by omega
            subst ek
            have t1 : decide ((0 : Int) < (0 : Int)) = false := by simp
            have eN : fewN 0 0 = 0 := by unfold fewN; rw [if_pos (by omega)]; omega
            obtain ⟨A', c', rfl⟩ := own_slice hown
            have hR := own_jobs hown (by simp) haft
            clear hown haft HK0
            go_wp2_with fail
            go_ret
            refine ⟨A', c', ?_, ?_, hb⟩
            · simp only [List.length_map, List.length_take, hll.out, eN]
              (try rw [Nat.min_eq_left (by omega)]); (try rfl)
            · simp only [List.length_map, List.length_take, hll.out, eN]
              rw [Nat.min_eq_left (by omega)]
              exact hR
      · skip
        go_wp2_with fail
        go_loopw [5, 6] (fun v i wr => ∃ k : Nat, k ≤ n ∧ i = .int .i64 k ∧ Hid (FewK w l k v wr)) (fun _ i _ => 100 - (intOf i).toNat)
        case atStart => exact ⟨0, Nat.zero_le _, rfl, HK0⟩
        case round =>
          obtain ⟨k, hk, rfl, ⟨vs, hown, haft, hb⟩⟩ := hrel
          by_cases hlt : k < n
          · have t1 : decide ((k : Int) < (n : Int)) = true := by simp; omega
            have t2 : decide ((k : Int) ≤ 64) = true := by simp; omega
            have t3 : (k : Int) < (n : Int) := by omega
            have t4 : (k : Int) ≤ 64 := by omega
            obtain ⟨ad, j, e1, hg, hj, h0, h1, h2, h3, B, m, cj, h4, h5, h6, h7⟩ := (rA.later hb).at_ (show k < n by omega)
            cases e1
            obtain ⟨V, cv, rfl⟩ := own_slice hown
            have hbA : Below wr.heap.size wr (wr.alloc (.cells #[.int .i64 j.work, .int .i64 j.rel, .int .i64 j.due, .int .i64 j.wt, .slice B m cj] 43)) := (Below.refl _ _).alloc (Nat.le_refl _) _
            have M := Lib.hid (cut_any B m cj 70 j.after (wr.alloc (.cells #[.int .i64 j.work, .int .i64 j.rel, .int .i64 j.due, .int .i64 j.wt, .slice B m cj] 43)) (h5.later hbA) h6 h7 (by omega))
            have hbA2 := Lib.hid hbA
            clear hbA
            go_wp2_with fail
            refine M.out.mono ?_
            rintro e w2 ⟨vj, rfl, hvj, hb2⟩
            clear M h0 h1 h2 h3 h4 h5
            have g0 : w2.cell? ⟨wr.heap.size, 0, none⟩ = some (.int .i64 j.work) := (hb2.cell (p := ⟨wr.heap.size, 0, none⟩) (by simp)).trans (by simp)
            have g1 : w2.cell? ⟨wr.heap.size, 1, none⟩ = some (.int .i64 j.rel) := (hb2.cell (p := ⟨wr.heap.size, 1, none⟩) (by simp)).trans (by simp)
            have g2 : w2.cell? ⟨wr.heap.size, 2, none⟩ = some (.int .i64 j.due) := (hb2.cell (p := ⟨wr.heap.size, 2, none⟩) (by simp)).trans (by simp)
            have g3 : w2.cell? ⟨wr.heap.size, 3, none⟩ = some (.int .i64 j.wt) := (hb2.cell (p := ⟨wr.heap.size, 3, none⟩) (by simp)).trans (by simp)
            have g4 : w2.cell? ⟨wr.heap.size, 4, none⟩ = some (.slice B m cj) := (hb2.cell (p := ⟨wr.heap.size, 4, none⟩) (by simp)).trans (by simp)
            have f4 : w2.frozen? ⟨wr.heap.size, 4, none⟩ = false := (hb2.frozen (p := ⟨wr.heap.size, 4, none⟩) (by simp)).trans (by simp)
            have hbw : Below wr.heap.size wr (w2.setCell ⟨wr.heap.size, 4, none⟩ vj) := (hbA2.out.trans (hb2.mono (by simp))).setCell (p := ⟨wr.heap.size, 4, none⟩) (Nat.le_refl _) _
            have hvj3 : IsR (w2.setCell ⟨wr.heap.size, 4, none⟩ vj) vj (cutJ j).after := by
              refine World.ownsRow.mono (World.ownsRow.kept hvj (only_setCell (g := wr.heap.size) (World.grownBy.refl _ _) (p := ⟨wr.heap.size, 4, none⟩) (.inl rfl) _) ?_) (Nat.zero_le _)
              cases hx : vj.ownBlock with
              | none => exact .inl rfl
              | some gx =>
                have := (hvj.lt gx hx).1
                simp at this
                exact .inr (by simp; omega)
            obtain ⟨B2, c2, e2⟩ := own_slice hvj3
            have hown3 := own_later hown hbw
            have haft3 := haft.mono (w' := w2.setCell ⟨wr.heap.size, 4, none⟩ vj) (fun v l h => h.later hbw)
            have hb3 := hb.trans (hbw.mono hb.size)
            clear hvj hb2 hbw hown haft hb hbA2 hg
            subst e2
            have k0 : (w2.setCell ⟨wr.heap.size, 4, none⟩ (.slice B2 (cutJ j).after.length c2)).cell? ⟨wr.heap.size, 0, none⟩ = some (.int .i64 j.work) := (World.cell?_setCell_other _ _ _ _ (by simp)).trans g0
            have k1 : (w2.setCell ⟨wr.heap.size, 4, none⟩ (.slice B2 (cutJ j).after.length c2)).cell? ⟨wr.heap.size, 1, none⟩ = some (.int .i64 j.rel) := (World.cell?_setCell_other _ _ _ _ (by simp)).trans g1
            have k2 : (w2.setCell ⟨wr.heap.size, 4, none⟩ (.slice B2 (cutJ j).after.length c2)).cell? ⟨wr.heap.size, 2, none⟩ = some (.int .i64 j.due) := (World.cell?_setCell_other _ _ _ _ (by simp)).trans g2
            have k3 : (w2.setCell ⟨wr.heap.size, 4, none⟩ (.slice B2 (cutJ j).after.length c2)).cell? ⟨wr.heap.size, 3, none⟩ = some (.int .i64 j.wt) := (World.cell?_setCell_other _ _ _ _ (by simp)).trans g3
            have k4 : (w2.setCell ⟨wr.heap.size, 4, none⟩ (.slice B2 (cutJ j).after.length c2)).cell? ⟨wr.heap.size, 4, none⟩ = some (.slice B2 (cutJ j).after.length c2) := World.cell?_setCell_same' _ _ _ (by rw [g4]; rfl)
            clear g0 g1 g2 g3
            go_upto_region 9 with (fail)
            revert hvj3 hown3 haft3 hb3 k0 k1 k2 k3 k4
            generalize (w2.setCell ⟨wr.heap.size, 4, none⟩ (.slice B2 (cutJ j).after.length c2)) = w3
            intro hvj3 hown3 haft3 hb3 k0 k1 k2 k3 k4
            clear g4 f4
            generalize (cutJ j).after.length = nj at *
            have hbN : Below w3.heap.size w3 (w3.alloc (.cells #[.int .i64 j.work, .int .i64 j.rel, .int .i64 j.due, .int .i64 j.wt, .slice B2 nj c2] 43)) := (Below.refl _ _).alloc (Nat.le_refl _) _
            have hownN := own_later hown3 hbN
            have haftN := haft3.mono (w' := w3.alloc (.cells #[.int .i64 j.work, .int .i64 j.rel, .int .i64 j.due, .int .i64 j.wt, .slice B2 nj c2] 43)) (fun v l h => h.later hbN)
            have hvjN := hvj3.later hbN
            have hbN2 := hb3.trans (hbN.mono hb3.size)
            have HF := Lib.hid (fun v' w4 => FewK.step (v' := v') (w4 := w4) hj hownN haftN hvjN hbN2)
            have hownH := Lib.hid hownN
            have hsz : w.heap.size ≤ w3.heap.size := hb3.size
            clear hownN haftN hvjN hbN2 hbN hvj3 hown3 haft3 hb3
            go_wp2_with (at_builtin; refine app_job _ rfl (.tmp 36) (.tmp 38) rfl w.heap.size (.slice V k cv) k _ rfl hownH.out ⟨w3.heap.size, 0, none⟩ 1 (jcells (cutJ j) (.slice B2 nj c2)) rfl rfl (by intro i u hu; simp only [Addr.add_lit, Nat.zero_add]; have hi : i < 5 := (List.getElem?_eq_some_iff.1 hu).1; rcases i with _ | _ | _ | _ | _ | i <;> simp [jcells, cutJ] at hu ⊢ <;> first | omega | exact hu) (by simp [jcells, Value.oneCell']) (by omega) (by simp; omega) ?_)
            intro v' w4 hnew hgr
            have HK := Lib.hid (HF.out v' w4 (by rw [List.map_take]; exact hnew) hgr)
            clear HF hnew hgr hownH
            go_wp2_with fail
            go_roundw
            case rel => exact ⟨k + 1, by omega, by go_num, HK⟩
            case measure => simp [intOf]; omega
          · have ek : n = k := by omega
            subst ek
            have t1 : decide ((n : Int) < (n : Int)) = false := by simp
            have eN : fewN n n = n := by unfold fewN; rw [if_pos (by omega)]; omega
            obtain ⟨A', c', rfl⟩ := own_slice hown
            have hR := own_jobs hown (by simp [hll.out]) haft
            clear hown haft HK0
            go_wp2_with fail
            go_ret
            refine ⟨A', c', ?_, ?_, hb⟩
            · simp only [List.length_map, List.length_take, hll.out, eN]
              (try rw [Nat.min_eq_left (by omega)]); (try rfl)
            · simp only [List.length_map, List.length_take, hll.out, eN]
              rw [Nat.min_eq_left (by omega)]
              exact hR
    · have hKc : q ≤ c := by omega
      have hKci : (q : Int) ≤ (c : Int) := by omega
      have hi : (q : Int) < (n : Int) := by omega
      rcases A with _ | a
      · have h0 := hnil rfl
        exfalso; omega
      · skip
        go_wp2_with fail
        go_loopw [5, 6] (fun v i wr => ∃ k : Nat, k ≤ q ∧ i = .int .i64 k ∧ Hid (FewK w l k v wr)) (fun _ i _ => 100 - (intOf i).toNat)
        case atStart => exact ⟨0, Nat.zero_le _, rfl, HK0⟩
        case round =>
          obtain ⟨k, hk, rfl, ⟨vs, hown, haft, hb⟩⟩ := hrel
          by_cases hlt : k < q
          · have t1 : decide ((k : Int) < (q : Int)) = true := by simp; omega
            have t2 : decide ((k : Int) ≤ 64) = true := by simp; omega
            have t3 : (k : Int) < (q : Int) := by omega
            have t4 : (k : Int) ≤ 64 := by omega
            obtain ⟨ad, j, e1, hg, hj, h0, h1, h2, h3, B, m, cj, h4, h5, h6, h7⟩ := (rA.later hb).at_ (show k < n by omega)
            cases e1
            obtain ⟨V, cv, rfl⟩ := own_slice hown
            have hbA : Below wr.heap.size wr (wr.alloc (.cells #[.int .i64 j.work, .int .i64 j.rel, .int .i64 j.due, .int .i64 j.wt, .slice B m cj] 43)) := (Below.refl _ _).alloc (Nat.le_refl _) _
            have M := Lib.hid (cut_any B m cj 70 j.after (wr.alloc (.cells #[.int .i64 j.work, .int .i64 j.rel, .int .i64 j.due, .int .i64 j.wt, .slice B m cj] 43)) (h5.later hbA) h6 h7 (by omega))
            have hbA2 := Lib.hid hbA
            clear hbA
            go_wp2_with fail
            refine M.out.mono ?_
            rintro e w2 ⟨vj, rfl, hvj, hb2⟩
            clear M h0 h1 h2 h3 h4 h5
            have g0 : w2.cell? ⟨wr.heap.size, 0, none⟩ = some (.int .i64 j.work) := (hb2.cell (p := ⟨wr.heap.size, 0, none⟩) (by simp)).trans (by simp)
            have g1 : w2.cell? ⟨wr.heap.size, 1, none⟩ = some (.int .i64 j.rel) := (hb2.cell (p := ⟨wr.heap.size, 1, none⟩) (by simp)).trans (by simp)
            have g2 : w2.cell? ⟨wr.heap.size, 2, none⟩ = some (.int .i64 j.due) := (hb2.cell (p := ⟨wr.heap.size, 2, none⟩) (by simp)).trans (by simp)
            have g3 : w2.cell? ⟨wr.heap.size, 3, none⟩ = some (.int .i64 j.wt) := (hb2.cell (p := ⟨wr.heap.size, 3, none⟩) (by simp)).trans (by simp)
            have g4 : w2.cell? ⟨wr.heap.size, 4, none⟩ = some (.slice B m cj) := (hb2.cell (p := ⟨wr.heap.size, 4, none⟩) (by simp)).trans (by simp)
            have f4 : w2.frozen? ⟨wr.heap.size, 4, none⟩ = false := (hb2.frozen (p := ⟨wr.heap.size, 4, none⟩) (by simp)).trans (by simp)
            have hbw : Below wr.heap.size wr (w2.setCell ⟨wr.heap.size, 4, none⟩ vj) := (hbA2.out.trans (hb2.mono (by simp))).setCell (p := ⟨wr.heap.size, 4, none⟩) (Nat.le_refl _) _
            have hvj3 : IsR (w2.setCell ⟨wr.heap.size, 4, none⟩ vj) vj (cutJ j).after := by
              refine World.ownsRow.mono (World.ownsRow.kept hvj (only_setCell (g := wr.heap.size) (World.grownBy.refl _ _) (p := ⟨wr.heap.size, 4, none⟩) (.inl rfl) _) ?_) (Nat.zero_le _)
              cases hx : vj.ownBlock with
              | none => exact .inl rfl
              | some gx =>
                have := (hvj.lt gx hx).1
                simp at this
                exact .inr (by simp; omega)
            obtain ⟨B2, c2, e2⟩ := own_slice hvj3
            have hown3 := own_later hown hbw
            have haft3 := haft.mono (w' := w2.setCell ⟨wr.heap.size, 4, none⟩ vj) (fun v l h => h.later hbw)
            have hb3 := hb.trans (hbw.mono hb.size)
            clear hvj hb2 hbw hown haft hb hbA2 hg
            subst e2
            have k0 : (w2.setCell ⟨wr.heap.size, 4, none⟩ (.slice B2 (cutJ j).after.length c2)).cell? ⟨wr.heap.size, 0, none⟩ = some (.int .i64 j.work) := (World.cell?_setCell_other _ _ _ _ (by simp)).trans g0
            have k1 : (w2.setCell ⟨wr.heap.size, 4, none⟩ (.slice B2 (cutJ j).after.length c2)).cell? ⟨wr.heap.size, 1, none⟩ = some (.int .i64 j.rel) := (World.cell?_setCell_other _ _ _ _ (by simp)).trans g1
            have k2 : (w2.setCell ⟨wr.heap.size, 4, none⟩ (.slice B2 (cutJ j).after.length c2)).cell? ⟨wr.heap.size, 2, none⟩ = some (.int .i64 j.due) := (World.cell?_setCell_other _ _ _ _ (by simp)).trans g2
            have k3 : (w2.setCell ⟨wr.heap.size, 4, none⟩ (.slice B2 (cutJ j).after.length c2)).cell? ⟨wr.heap.size, 3, none⟩ = some (.int .i64 j.wt) := (World.cell?_setCell_other _ _ _ _ (by simp)).trans g3
            have k4 : (w2.setCell ⟨wr.heap.size, 4, none⟩ (.slice B2 (cutJ j).after.length c2)).cell? ⟨wr.heap.size, 4, none⟩ = some (.slice B2 (cutJ j).after.length c2) := World.cell?_setCell_same' _ _ _ (by rw [g4]; rfl)
            clear g0 g1 g2 g3
            go_upto_region 9 with (fail)
            revert hvj3 hown3 haft3 hb3 k0 k1 k2 k3 k4
            generalize (w2.setCell ⟨wr.heap.size, 4, none⟩ (.slice B2 (cutJ j).after.length c2)) = w3
            intro hvj3 hown3 haft3 hb3 k0 k1 k2 k3 k4
            clear g4 f4
            generalize (cutJ j).after.length = nj at *
            have hbN : Below w3.heap.size w3 (w3.alloc (.cells #[.int .i64 j.work, .int .i64 j.rel, .int .i64 j.due, .int .i64 j.wt, .slice B2 nj c2] 43)) := (Below.refl _ _).alloc (Nat.le_refl _) _
            have hownN := own_later hown3 hbN
            have haftN := haft3.mono (w' := w3.alloc (.cells #[.int .i64 j.work, .int .i64 j.rel, .int .i64 j.due, .int .i64 j.wt, .slice B2 nj c2] 43)) (fun v l h => h.later hbN)
            have hvjN := hvj3.later hbN
            have hbN2 := hb3.trans (hbN.mono hb3.size)
            have HF := Lib.hid (fun v' w4 => FewK.step (v' := v') (w4 := w4) hj hownN haftN hvjN hbN2)
            have hownH := Lib.hid hownN
            have hsz : w.heap.size ≤ w3.heap.size := hb3.size
            clear hownN haftN hvjN hbN2 hbN hvj3 hown3 haft3 hb3
            go_wp2_with (at_builtin; refine app_job _ rfl (.tmp 36) (.tmp 38) rfl w.heap.size (.slice V k cv) k _ rfl hownH.out ⟨w3.heap.size, 0, none⟩ 1 (jcells (cutJ j) (.slice B2 nj c2)) rfl rfl (by intro i u hu; simp only [Addr.add_lit, Nat.zero_add]; have hi : i < 5 := (List.getElem?_eq_some_iff.1 hu).1; rcases i with _ | _ | _ | _ | _ | i <;> simp [jcells, cutJ] at hu ⊢ <;> first | omega | exact hu) (by simp [jcells, Value.oneCell']) (by omega) (by simp; omega) ?_)
            intro v' w4 hnew hgr
            have HK := Lib.hid (HF.out v' w4 (by rw [List.map_take]; exact hnew) hgr)
            clear HF hnew hgr hownH
            go_wp2_with fail
            go_roundw
            case rel => exact ⟨k + 1, by omega, by go_num, HK⟩
            case measure => simp [intOf]; omega
          · have ek : q = k := by omega
            subst ek
            have t1 : decide ((q : Int) < (q : Int)) = false := by simp
            have eN : fewN n q = q := by unfold fewN; rw [if_pos (by omega)]; omega
            obtain ⟨A', c', rfl⟩ := own_slice hown
            have hR := own_jobs hown (by simp [hll.out]; omega) haft
            clear hown haft HK0
            go_wp2_with fail
            go_ret
            refine ⟨A', c', ?_, ?_, hb⟩
            · simp only [List.length_map, List.length_take, hll.out, eN]
              (try rw [Nat.min_eq_left (by omega)]); (try rfl)
            · simp only [List.length_map, List.length_take, hll.out, eN]
              rw [Nat.min_eq_left (by omega)]
              exact hR
  · have d64 : decide ((n : Int) ≤ 64) = false := by simp; omega
    have d64' : ¬ (n : Int) ≤ 64 := by omega
    go_wp2_with fail
    go_loopw [5, 6] (fun v i wr => ∃ k : Nat, k ≤ 65 ∧ i = .int .i64 k ∧ Hid (FewK w l k v wr)) (fun _ i _ => 100 - (intOf i).toNat)
    case atStart => exact ⟨0, Nat.zero_le _, rfl, HK0⟩
    case round =>
      obtain ⟨k, hk, rfl, ⟨vs, hown, haft, hb⟩⟩ := hrel
      by_cases hlt : k < 65
      · have t1 : decide ((k : Int) < (n : Int)) = true := by simp; omega
        have t2 : decide ((k : Int) ≤ 64) = true := by simp; omega
        have t3 : (k : Int) < (n : Int) := by omega
        have t4 : (k : Int) ≤ 64 := by omega
        obtain ⟨ad, j, e1, hg, hj, h0, h1, h2, h3, B, m, cj, h4, h5, h6, h7⟩ := (rA.later hb).at_ (show k < n by omega)
        cases e1
        obtain ⟨V, cv, rfl⟩ := own_slice hown
        have hbA : Below wr.heap.size wr (wr.alloc (.cells #[.int .i64 j.work, .int .i64 j.rel, .int .i64 j.due, .int .i64 j.wt, .slice B m cj] 43)) := (Below.refl _ _).alloc (Nat.le_refl _) _
        have M := Lib.hid (cut_any B m cj 70 j.after (wr.alloc (.cells #[.int .i64 j.work, .int .i64 j.rel, .int .i64 j.due, .int .i64 j.wt, .slice B m cj] 43)) (h5.later hbA) h6 h7 (by omega))
        have hbA2 := Lib.hid hbA
        clear hbA
        go_wp2_with fail
        refine M.out.mono ?_
        rintro e w2 ⟨vj, rfl, hvj, hb2⟩
        clear M h0 h1 h2 h3 h4 h5
        have g0 : w2.cell? ⟨wr.heap.size, 0, none⟩ = some (.int .i64 j.work) := (hb2.cell (p := ⟨wr.heap.size, 0, none⟩) (by simp)).trans (by simp)
        have g1 : w2.cell? ⟨wr.heap.size, 1, none⟩ = some (.int .i64 j.rel) := (hb2.cell (p := ⟨wr.heap.size, 1, none⟩) (by simp)).trans (by simp)
        have g2 : w2.cell? ⟨wr.heap.size, 2, none⟩ = some (.int .i64 j.due) := (hb2.cell (p := ⟨wr.heap.size, 2, none⟩) (by simp)).trans (by simp)
        have g3 : w2.cell? ⟨wr.heap.size, 3, none⟩ = some (.int .i64 j.wt) := (hb2.cell (p := ⟨wr.heap.size, 3, none⟩) (by simp)).trans (by simp)
        have g4 : w2.cell? ⟨wr.heap.size, 4, none⟩ = some (.slice B m cj) := (hb2.cell (p := ⟨wr.heap.size, 4, none⟩) (by simp)).trans (by simp)
        have f4 : w2.frozen? ⟨wr.heap.size, 4, none⟩ = false := (hb2.frozen (p := ⟨wr.heap.size, 4, none⟩) (by simp)).trans (by simp)
        have hbw : Below wr.heap.size wr (w2.setCell ⟨wr.heap.size, 4, none⟩ vj) := (hbA2.out.trans (hb2.mono (by simp))).setCell (p := ⟨wr.heap.size, 4, none⟩) (Nat.le_refl _) _
        have hvj3 : IsR (w2.setCell ⟨wr.heap.size, 4, none⟩ vj) vj (cutJ j).after := by
          refine World.ownsRow.mono (World.ownsRow.kept hvj (only_setCell (g := wr.heap.size) (World.grownBy.refl _ _) (p := ⟨wr.heap.size, 4, none⟩) (.inl rfl) _) ?_) (Nat.zero_le _)
          cases hx : vj.ownBlock with
          | none => exact .inl rfl
          | some gx =>
            have := (hvj.lt gx hx).1
            simp at this
            exact .inr (by simp; omega)
        obtain ⟨B2, c2, e2⟩ := own_slice hvj3
        have hown3 := own_later hown hbw
        have haft3 := haft.mono (w' := w2.setCell ⟨wr.heap.size, 4, none⟩ vj) (fun v l h => h.later hbw)
        have hb3 := hb.trans (hbw.mono hb.size)
        clear hvj hb2 hbw hown haft hb hbA2 hg
        subst e2
        have k0 : (w2.setCell ⟨wr.heap.size, 4, none⟩ (.slice B2 (cutJ j).after.length c2)).cell? ⟨wr.heap.size, 0, none⟩ = some (.int .i64 j.work) := (World.cell?_setCell_other _ _ _ _ (by simp)).trans g0
        have k1 : (w2.setCell ⟨wr.heap.size, 4, none⟩ (.slice B2 (cutJ j).after.length c2)).cell? ⟨wr.heap.size, 1, none⟩ = some (.int .i64 j.rel) := (World.cell?_setCell_other _ _ _ _ (by simp)).trans g1
        have k2 : (w2.setCell ⟨wr.heap.size, 4, none⟩ (.slice B2 (cutJ j).after.length c2)).cell? ⟨wr.heap.size, 2, none⟩ = some (.int .i64 j.due) := (World.cell?_setCell_other _ _ _ _ (by simp)).trans g2
        have k3 : (w2.setCell ⟨wr.heap.size, 4, none⟩ (.slice B2 (cutJ j).after.length c2)).cell? ⟨wr.heap.size, 3, none⟩ = some (.int .i64 j.wt) := (World.cell?_setCell_other _ _ _ _ (by simp)).trans g3
        have k4 : (w2.setCell ⟨wr.heap.size, 4, none⟩ (.slice B2 (cutJ j).after.length c2)).cell? ⟨wr.heap.size, 4, none⟩ = some (.slice B2 (cutJ j).after.length c2) := World.cell?_setCell_same' _ _ _ (by rw [g4]; rfl)
        clear g0 g1 g2 g3
        go_upto_region 9 with (fail)
        revert hvj3 hown3 haft3 hb3 k0 k1 k2 k3 k4
        generalize (w2.setCell ⟨wr.heap.size, 4, none⟩ (.slice B2 (cutJ j).after.length c2)) = w3
        intro hvj3 hown3 haft3 hb3 k0 k1 k2 k3 k4
        clear g4 f4
        generalize (cutJ j).after.length = nj at *
        have hbN : Below w3.heap.size w3 (w3.alloc (.cells #[.int .i64 j.work, .int .i64 j.rel, .int .i64 j.due, .int .i64 j.wt, .slice B2 nj c2] 43)) := (Below.refl _ _).alloc (Nat.le_refl _) _
        have hownN := own_later hown3 hbN
        have haftN := haft3.mono (w' := w3.alloc (.cells #[.int .i64 j.work, .int .i64 j.rel, .int .i64 j.due, .int .i64 j.wt, .slice B2 nj c2] 43)) (fun v l h => h.later hbN)
        have hvjN := hvj3.later hbN
        have hbN2 := hb3.trans (hbN.mono hb3.size)
        have HF := Lib.hid (fun v' w4 => FewK.step (v' := v') (w4 := w4) hj hownN haftN hvjN hbN2)
        have hownH := Lib.hid hownN
        have hsz : w.heap.size ≤ w3.heap.size := hb3.size
        clear hownN haftN hvjN hbN2 hbN hvj3 hown3 haft3 hb3
        go_wp2_with (at_builtin; refine app_job _ rfl (.tmp 36) (.tmp 38) rfl w.heap.size (.slice V k cv) k _ rfl hownH.out ⟨w3.heap.size, 0, none⟩ 1 (jcells (cutJ j) (.slice B2 nj c2)) rfl rfl (by intro i u hu; simp only [Addr.add_lit, Nat.zero_add]; have hi : i < 5 := (List.getElem?_eq_some_iff.1 hu).1; rcases i with _ | _ | _ | _ | _ | i <;> simp [jcells, cutJ] at hu ⊢ <;> first | omega | exact hu) (by simp [jcells, Value.oneCell']) (by omega) (by simp; omega) ?_)
        intro v' w4 hnew hgr
        have HK := Lib.hid (HF.out v' w4 (by rw [List.map_take]; exact hnew) hgr)
        clear HF hnew hgr hownH
        go_wp2_with fail
        go_roundw
        case rel => exact ⟨k + 1, by omega, by go_num, HK⟩
        case measure => simp [intOf]; omega
      · have ek : 65 = k := by omega
        subst ek
        have t2 : decide (((65 : Nat) : Int) ≤ 64) = false := by decide
        obtain ⟨A', c', rfl⟩ := own_slice hown
        have hR := own_jobs hown (by simp [hll.out]; omega) haft
        clear hown haft HK0
        go_wp2_with fail
        all_goals
          go_ret
          refine ⟨A', c', ?_, ?_, hb⟩
          · simp only [List.length_map, List.length_take, hll.out, fewN, if_neg h64]
            (try rw [Nat.min_eq_left (by omega)]); (try rfl)
          · simp only [List.length_map, List.length_take, hll.out, fewN, if_neg h64]
            rw [Nat.min_eq_left (by omega)]
            simpa using hR
end Go.Proofs.Ytnfcigbiebbjdaa
