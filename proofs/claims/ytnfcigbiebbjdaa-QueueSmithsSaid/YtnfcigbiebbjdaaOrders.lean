/-
  All orders of a few numbers.
  Conditions: of at most five numbers.
-/
import Derived.Test.YtnfcigbiebbjdaaMixed
namespace Go.Proofs.Ytnfcigbiebbjdaa
open Go.RowKit

/-- A value that is a slice of integers with room for them. -/
def IsRow (w : World) (v : Value) (l : List Int) : Prop := ∃ g c, v = .slice (some ⟨g, 0, none⟩) l.length c ∧ w.ownsRow 0 3 1 v l.length (l.map (Value.int .i64))
theorem IsRow.later {w w' : World} {v : Value} {l : List Int} (h : IsRow w v l) (hb : Below w.heap.size w w') : IsRow w' v l := by
  obtain ⟨g, c, e, h1⟩ := h
  exact ⟨g, c, e, own_later h1 hb⟩
theorem IsRow.row {w : World} {v : Value} {l : List Int} (h : IsRow w v l) : ∃ g c, v = .slice (some ⟨g, 0, none⟩) l.length c ∧ l.length ≤ c ∧ RowH w (some ⟨g, 0, none⟩) l.length l := by
  obtain ⟨g, c, e, h1⟩ := h
  subst e
  refine ⟨g, c, rfl, ?_, own_rowH h1⟩
  rcases h1.2 with ⟨h2, h3⟩ | ⟨g', cap', cur, h2, _, _, h4, _⟩
  · cases h2
  · injection h2 with e1 e2 e3
    omega
/-- A row of slices is another block than a row of integers. -/
theorem IsRow.kept {w w' : World} {v x : Value} {l : List Int} {base M : Nat} {vs : List Value} (h : IsRow w v l) (hx : w.ownsRow base 23 1 x M vs) (hg : w.grownBy w' x.ownBlock) : IsRow w' v l := by
  obtain ⟨g, c, e, h1⟩ := h
  refine ⟨g, c, e, h1.kept hg (.inr fun he => ?_)⟩
  subst e
  rcases h1.2 with ⟨h2, _⟩ | ⟨g', cap', cur, h2, _, h3, _⟩
  · cases h2
  · injection h2 with e1 e2 e3
    cases e1
    rcases hx.2 with ⟨h4, _⟩ | ⟨gx, capx, curx, h4, _, h5, _⟩
    · subst h4; cases he
    · subst h4
      simp only [Value.ownBlock, Option.some.injEq] at he
      subst he
      rw [h3] at h5
      injection h5 with h6
      injection h6 with _ h7
      exact absurd h7 (by decide)
theorem own_isRow {w : World} {base n : Nat} {v : Value} {l : List Int} (h : w.ownsRow base 3 1 v n (l.map (Value.int .i64))) (hn : l.length = n) (h0 : 0 < n) : IsRow w v l := by
  obtain ⟨g, cap, e, _, _⟩ := h.form h0
  subst hn
  exact ⟨g, cap, e, h.mono (Nat.zero_le _)⟩
theorem row_drop {w : World} {B k c t : Nat} {l : List Int} (h : RowH w (some ⟨B, 0, none⟩) k l) (hk : k ≤ c) : RowI w (if c = t then some ⟨B, 0, none⟩ else some ⟨B, t, none⟩) (k - t) (l.drop t) := by
  refine ⟨by rw [List.length_drop, h.1], fun h0 => ?_⟩
  rw [if_neg (by omega)]
  obtain ⟨g, e, hg, hc⟩ := h.2 (by omega)
  cases e
  refine ⟨_, rfl, hg, fun j v hj => ?_⟩
  rw [List.getElem?_drop] at hj
  rw [Addr.add_lit]
  exact hc _ v hj
/-- Slices of integers, one for each list. -/
def Rows (w : World) (vs : List Value) (LL : List (List Int)) : Prop := vs.length = LL.length ∧ ∀ (k : Nat) (l : List Int), LL[k]? = some l → ∃ v, vs[k]? = some v ∧ IsRow w v l
theorem Rows.later {w w' : World} {vs : List Value} {LL : List (List Int)} (h : Rows w vs LL) (hb : Below w.heap.size w w') : Rows w' vs LL :=
  ⟨h.1, fun k l hk => by obtain ⟨v, hv, hr⟩ := h.2 k l hk; exact ⟨v, hv, hr.later hb⟩⟩
theorem Rows.snoc {w : World} {vs : List Value} {LL : List (List Int)} {v : Value} {l : List Int} (h : Rows w vs LL) (hv : IsRow w v l) : Rows w (vs ++ [v]) (LL ++ [l]) := by
  refine ⟨by simp [h.1], fun k l' hk => ?_⟩
  rcases Nat.lt_trichotomy k LL.length with hlt | he | hgt
  · rw [List.getElem?_append_left hlt] at hk
    obtain ⟨v', h1, h2⟩ := h.2 k l' hk
    exact ⟨v', by rw [List.getElem?_append_left (by rw [h.1]; exact hlt)]; exact h1, h2⟩
  · subst he
    rw [List.getElem?_append_right (Nat.le_refl _), Nat.sub_self] at hk
    obtain rfl : l = l' := by simpa using hk
    exact ⟨v, by rw [← h.1, List.getElem?_append_right (Nat.le_refl _), Nat.sub_self]; rfl, hv⟩
  · rw [List.getElem?_eq_none (by simp; omega)] at hk
    cases hk
theorem Rows.one {w : World} {vs : List Value} {LL : List (List Int)} (h : Rows w vs LL) : ∀ u ∈ vs, u.oneCell' = true := by
  intro u hu
  obtain ⟨k, hk⟩ := List.getElem?_of_mem hu
  have hkl : k < LL.length := by rw [← h.1]; exact (List.getElem?_eq_some_iff.1 hk).1
  obtain ⟨v, hv, g, c, e, _⟩ := h.2 k LL[k] (List.getElem?_eq_getElem hkl)
  rw [hk] at hv
  cases hv
  rw [e]
  rfl
theorem insert_perm {i at_ : Nat} {l : List Int} (h : l.Perm (nums i)) : (l.take at_ ++ [(i : Int)] ++ l.drop at_).Perm (nums (i + 1)) := by
  rw [nums_succ]
  have h1 : (l.take at_ ++ [(i : Int)] ++ l.drop at_).Perm ([(i : Int)] ++ (l.take at_ ++ l.drop at_)) := by
    rw [← List.append_assoc]
    exact List.Perm.append_right _ List.perm_append_comm
  rw [List.take_append_drop] at h1
  exact h1.trans (List.perm_append_comm.trans (h.append_right _))
theorem info23 : (Try.prog.info? 23).map (fun i => (i.zero, i.size, i.bytes)) = some (some (.slice none 0 0), 1, 24) := by kernel_rfl
/-- What Orders has gathered. -/
def OrdK (w0 : World) (i : Nat) (v : Value) (N : Nat) (wr : World) : Prop :=
  ∃ (vs : List Value) (LL : List (List Int)), vs.length = N ∧ wr.ownsRow w0.heap.size 23 1 v N vs ∧ Rows wr vs LL ∧ (∀ o ∈ LL, o.Perm (nums i)) ∧ Below w0.heap.size w0 wr

set_option maxHeartbeats 4000000 in
theorem Orders_any (n : Nat) (w : World) (hn : n ≤ 5) : Calls Try.prog 23 #[.int .i64 n] w fun e w' => ∃ v N, e = .returned v ∧ N ≤ 3125 ∧ OrdK w n v N w' := by
  go_enter Try.func23, Try.ntmps23
  go_wp2_with fail
  go_loopw [3, 4] (fun v i wr => ∃ (k N : Nat), k ≤ n ∧ i = .int .i64 k ∧ N ≤ 5 ^ k ∧ OrdK w k v N wr) (fun _ i _ => n - (intOf i).toNat)
  case atStart =>
    have h0 : Below w.heap.size w (w.alloc (.cells #[] 3)) := (Below.refl _ _).alloc (Nat.le_refl _) _
    refine ⟨0, 1, Nat.zero_le _, rfl, by omega, [.slice (some ⟨w.heap.size, 0, none⟩) 0 0], [[]], rfl, ?_, ?_, by simp [nums], h0.alloc h0.size _⟩
    · have h := World.ownsRow_lit (base := w.heap.size) (e := 23) (size := 1) (w.alloc (.cells #[] 3)) #[.slice (some ⟨w.heap.size, 0, none⟩) 0 0] 1 (by simp) (by unfold maxLen; omega) (by simp)
      rw [World.size_alloc] at h
      exact h
    · refine ⟨rfl, fun j l hj => ?_⟩
      match j, hj with
      | 0, hj =>
        obtain rfl : ([] : List Int) = l := by simpa using hj
        exact ⟨_, rfl, w.heap.size, 0, rfl, ((World.ownsRow_made (base := 0) (e := 3) (size := 1) w #[] 0 (Nat.zero_le _) (by unfold maxLen; omega) (by simp)).alloc _)⟩
      | j + 1, hj => simp at hj
  case round =>
    obtain ⟨k, N, hk, rfl, hN, hK⟩ := hrel
    obtain ⟨v, hv⟩ : ∃ v, v = u3 := ⟨_, rfl⟩
    subst hv
    have hp : 5 ^ k ≤ 5 ^ 5 := Nat.pow_le_pow_right (by omega) (by omega)
    have hN2 : N ≤ 3125 := by omega
    by_cases hlt : k < n
    · obtain ⟨w1, hw1⟩ : ∃ w1, w1 = wr := ⟨_, rfl⟩
      subst hw1
      have hbt : decide ((k : Int) < (n : Int)) = true := by simp; omega
      have hbt2 : (k : Int) < (n : Int) := by omega
      have hmade : OrdK w1 (k + 1) (.slice (some ⟨w1.heap.size, 0, none⟩) 0 0) 0 (w1.alloc (.cells #[] 23)) :=
        ⟨[], [], rfl, World.ownsRow_made (base := w1.heap.size) (e := 23) (size := 1) w1 #[] 0 (by simp) (by unfold maxLen; omega) (by simp), ⟨rfl, fun j l hj => by simp at hj⟩, by simp, (Below.refl _ _).alloc (Nat.le_refl _) _⟩
      obtain ⟨vs, LL, hvs, hown, hrows, hord, hbw⟩ := hK
      have HO := Lib.hid hord
      have HR := Lib.hid hrows
      clear hord hrows hp
      obtain ⟨A, cA, rfl⟩ := own_slice hown
      go_wp2_with fail
      go_loopw [5, 6] (fun x i w2 => ∃ (q M : Nat), q ≤ N ∧ i = .int .i64 q ∧ M ≤ 5 * q ∧ OrdK w1 (k + 1) x M w2) (fun _ i _ => N - (intOf i).toNat)
      case atStart => exact ⟨0, 0, Nat.zero_le _, rfl, by omega, hmade⟩
      case round =>
        clear hmade
        obtain ⟨q, M, hq, rfl, hM, hK2⟩ := hrel
        obtain ⟨x, hx⟩ : ∃ x, x = u5 := ⟨_, rfl⟩
        subst hx
        by_cases hqN : q < N
        · have hbq : decide ((q : Int) < (N : Int)) = true := by simp; omega
          have hbq2 : (q : Int) < (N : Int) := by omega
          obtain ⟨l, hl⟩ : ∃ l, LL[q]? = some l := ⟨_, List.getElem?_eq_getElem (by rw [← HR.out.1, hvs]; exact hqN)⟩
          obtain ⟨v, hv, hir⟩ := HR.out.2 q l hl
          obtain ⟨B, c, rfl, hlc, hBr⟩ := hir.row
          have hlp := HO.out l (List.mem_of_getElem? hl)
          have hll : l.length = k := by rw [hlp.length_eq, nums_length]
          have HLP := Lib.hid hlp
          obtain ⟨g, cap, e1, hg1, hg2⟩ := hown.form (by omega)
          cases e1
          have hcell := hown.cellAt q (by omega)
          rw [hv] at hcell
          clear hv hl hlp hir
          rw [hll] at hBr hlc hcell
          go_wp2_with fail
          go_loopw [5, 7] (fun x i w2 => ∃ (t M : Nat), t ≤ k + 1 ∧ i = .int .i64 t ∧ M ≤ 5 * q + t ∧ OrdK w1 (k + 1) x M w2) (fun _ i _ => k + 1 - (intOf i).toNat)
          case atStart => exact ⟨0, M, by omega, rfl, by omega, hK2⟩
          case round =>
            clear hK2 hM
            obtain ⟨t, M, ht, rfl, hM, hK2⟩ := hrel
            obtain ⟨x, hx⟩ : ∃ x, x = u5 := ⟨_, rfl⟩
            subst hx
            by_cases htk : t ≤ k
            · have hbk : decide ((t : Int) ≤ (k : Int)) = true := by simp; omega
              have hbk2 : (t : Int) ≤ (k : Int) := by omega
              obtain ⟨vs2, LL2, hvs2, hown2, hrows2, hord2, hb2⟩ := hK2
              have HO2 := Lib.hid hord2
              have HR2 := Lib.hid hrows2
              have hc2 := (hb2.cell (p := ⟨g, q, none⟩) hg2).trans hcell
              have hg3 := Nat.lt_of_lt_of_le hg2 hb2.size
              have hB2 := hBr.later hb2
              have htc : t ≤ c := by omega
              have htc2 : (t : Int) ≤ (c : Int) := by omega
              have sz := hb2.size
              have z0 : Below wr.heap.size wr (wr.alloc (.cells #[] 3)) := (Below.refl _ _).alloc (Nat.le_refl _) _
              have hm0 : (wr.alloc (.cells #[] 3)).ownsRow wr.heap.size 3 1 (.slice (some ⟨wr.heap.size, 0, none⟩) 0 0) 0 (([] : List Int).map (Value.int .i64)) := World.ownsRow_made (base := wr.heap.size) (e := 3) (size := 1) wr #[] 0 (by simp) (by unfold maxLen; omega) (by simp)
              have hB3 := (hB2.later z0).rowI.take (m := t) (by omega)
              go_wp2_with (at_builtin; refine app_ints _ rfl (.tmp 28) (.tmp 34) rfl wr.heap.size _ 0 [] rfl hm0 _ t c (l.take t) rfl hB3 (by omega) (by simp) ?_)
              intro v8 w3 hown8 hgr8
              have z1 := z0.grown hgr8 (by simp) (fun k hk => (hm0.lt k hk).1)
              have z2 := z1.alloc z1.size (.cells #[.int .i64 k] 3)
              have hm1 : (w3.alloc (.cells #[.int .i64 k] 3)).ownsRow wr.heap.size 3 1 v8 t ((l.take t).map (Value.int .i64)) := by
                have h := hown8.alloc (.cells #[.int .i64 k] 3)
                rw [List.map_take]
                exact h
              have hi : RowI (w3.alloc (.cells #[.int .i64 k] 3)) (some ⟨w3.heap.size, 0, none⟩) 1 [(k : Int)] := (row_lit w3 [(k : Int)] 1 rfl).rowI
              have hs1 := z1.size
              clear hm0 hB3 hgr8
              go_wp2_with (at_builtin; refine app_ints _ rfl (.tmp 36) (.tmp 38) rfl wr.heap.size v8 t (l.take t) rfl hm1 (some ⟨w3.heap.size, 0, none⟩) 1 1 [(k : Int)] rfl hi (by omega) (by simp; omega) ?_)
              intro v9 w4 hown9 hgr9
              have z3 := z2.grown hgr9 z2.size (fun k hk => (hm1.lt k hk).1)
              have hs3 := z3.size
              have hc4 := (z3.cell (p := ⟨g, q, none⟩) hg3).trans hc2
              have hg4 := Nat.lt_of_lt_of_le hg3 z3.size
              have hB4 := hB2.later z3
              have hm2 : w4.ownsRow wr.heap.size 3 1 v9 (t + 1) ((l.take t ++ [(k : Int)]).map (Value.int .i64)) := by simpa using hown9
              clear hm1 hi hgr9 hc2 hown9
              have hB5 := row_drop (t := t) hB4 hlc
              go_wp2_with (at_builtin; refine app_ints _ rfl (.tmp 41) (.tmp 47) rfl wr.heap.size v9 (t + 1) (l.take t ++ [(k : Int)]) rfl hm2 _ _ _ (l.drop t) rfl hB5 (by omega) z3.size ?_)
              all_goals
                intro v10 w5 hown10 hgr10
                have z4 := z3.grown hgr10 z3.size (fun k hk => (hm2.lt k hk).1)
                have hown11 : w5.ownsRow wr.heap.size 3 1 v10 (t + 1 + (k - t)) ((l.take t ++ [(k : Int)] ++ l.drop t).map (Value.int .i64)) := by simpa using hown10
                obtain ⟨g10, c10, e10, _, _⟩ := hown11.form (by omega)
                subst e10
                have hir := own_isRow hown11 (by simp only [List.length_append, List.length_take, List.length_drop, List.length_singleton]; omega) (by omega)
                have hx5 := (own_later hown2 z4).alloc (.cells #[(Value.slice (some ⟨g10, 0, none⟩) (t + 1 + (k - t)) c10)] 23)
                have hb5 := (hb2.trans (z4.mono hb2.size)).alloc (hb2.trans (z4.mono hb2.size)).size (.cells #[(Value.slice (some ⟨g10, 0, none⟩) (t + 1 + (k - t)) c10)] 23)
                have hir6 := hir.later ((Below.refl _ _).alloc (Nat.le_refl _) (.cells #[(Value.slice (some ⟨g10, 0, none⟩) (t + 1 + (k - t)) c10)] 23))
                have hrows6 := (HR2.out.later z4).later ((Below.refl _ _).alloc (Nat.le_refl _) (.cells #[(Value.slice (some ⟨g10, 0, none⟩) (t + 1 + (k - t)) c10)] 23))
                have hone : ∀ u ∈ [(Value.slice (some ⟨g10, 0, none⟩) (t + 1 + (k - t)) c10)], u.oneCell' = true := fun u hu => by
                  obtain rfl : u = (Value.slice (some ⟨g10, 0, none⟩) (t + 1 + (k - t)) c10) := by simpa using hu
                  rfl
                have hnew : ∀ j u, ([(Value.slice (some ⟨g10, 0, none⟩) (t + 1 + (k - t)) c10)] : List Value)[j]? = some u → (w5.alloc (.cells #[(Value.slice (some ⟨g10, 0, none⟩) (t + 1 + (k - t)) c10)] 23)).cell? ((⟨w5.heap.size, 0, none⟩ : Addr).add j) = some u := fun j u hj => by
                  have := (Blk.new w5 23 #[(Value.slice (some ⟨g10, 0, none⟩) (t + 1 + (k - t)) c10)]).cell j
                  rw [Addr.add_lit, Nat.zero_add, this, ← hj, List.getElem?_toArray]
                obtain ⟨i0, hi, hz0, hz1, hz2⟩ := info_parts info23
                have HI := Lib.hid (And.intro hi (And.intro hz0 (And.intro hz1 hz2)))
                clear hm2 hB5 hgr10 hir hown10 hown11 hi hz0 hz1 hz2
                go_wp2_with (at_builtin; refine wpList_append_lies _ rfl (.tmp 40) (.tmp 49) 33 rfl w1.heap.size 23 i0 (.slice none 0 0) 1 24 Try.underlying33 HI.out.1 HI.out.2.1 HI.out.2.2.1 HI.out.2.2.2 rfl (by decide) x M vs2 rfl hx5 ⟨w5.heap.size, 0, none⟩ 1 1 [(Value.slice (some ⟨g10, 0, none⟩) (t + 1 + (k - t)) c10)] rfl rfl hnew hone (by omega) (by unfold maxLen; omega) (by omega) hb5.size _ rfl ?_)
                intro g6 cap6 w6 hown6 hgr6 _ _
                have hb6 := hb5.grown hgr6 hb5.size (fun k hk => (hx5.lt k hk).1)
                have hrows7 : Rows w6 (vs2 ++ [(Value.slice (some ⟨g10, 0, none⟩) (t + 1 + (k - t)) c10)]) (LL2 ++ [l.take t ++ [(k : Int)] ++ l.drop t]) :=
                  Rows.snoc ⟨hrows6.1, fun j l' hj => by obtain ⟨v', h1, h2⟩ := hrows6.2 j l' hj; exact ⟨v', h1, h2.kept hx5 hgr6⟩⟩ (hir6.kept hx5 hgr6)
                have hK7 : OrdK w1 (k + 1) (.slice (some ⟨g6, 0, none⟩) (M + 1) cap6) (M + 1) w6 := ⟨vs2 ++ [(Value.slice (some ⟨g10, 0, none⟩) (t + 1 + (k - t)) c10)], LL2 ++ [l.take t ++ [(k : Int)] ++ l.drop t], by simp [hvs2], hown6, hrows7, fun o ho => by
                  rcases List.mem_append.1 ho with h | h
                  · exact HO2.out o h
                  · obtain rfl : o = l.take t ++ [(k : Int)] ++ l.drop t := by simpa using h
                    exact insert_perm HLP.out, hb6⟩
                have HK7 := Lib.hid hK7
                clear hx5 hir6 hrows6 hone hnew HI hgr6 hrows7 hK7 hown6
                go_wp2_with fail
                go_roundw
                case rel => exact ⟨t + 1, M + 1, by omega, by go_num, by omega, HK7.out⟩
                case measure => simp [intOf]; omega
            · obtain rfl : t = k + 1 := by omega
              have hbk : decide (((k + 1 : Nat) : Int) ≤ (k : Int)) = false := by simp; omega
              have hbk2 : ¬ ((k + 1 : Nat) : Int) ≤ (k : Int) := by omega
              have HK2 := Lib.hid hK2
              obtain ⟨k1, hk1⟩ : ∃ k1, k1 = k + 1 := ⟨_, rfl⟩
              rw [← hk1] at hbk hbk2 ⊢
              clear hK2 hk1
              go_wp2_with fail
              go_roundw
              case rel => exact ⟨q + 1, M, by omega, by go_num, by omega, HK2.out⟩
              case measure => simp [intOf]; omega
        · obtain rfl : q = N := by omega
          have hbq : decide ((q : Int) < (q : Int)) = false := by simp
          have HK2 := Lib.hid hK2
          have hpw : M ≤ 5 ^ (k + 1) := by rw [Nat.pow_succ]; omega
          have HPW := Lib.hid hpw
          clear hK2 hpw hN hM
          go_wp2_with fail
          go_roundw
          case rel =>
            obtain ⟨vs2, LL2, h1, h2, h3, h4, h5⟩ := HK2.out
            exact ⟨k + 1, M, by omega, by go_num, HPW.out, vs2, LL2, h1, h2.mono hbw.size, h3, h4, hbw.trans (h5.mono hbw.size)⟩
          case measure => simp [intOf]; omega
    · obtain rfl : k = n := by omega
      have hbt : decide ((k : Int) < (k : Int)) = false := by simp
      clear hp
      go_wp2_with fail
      go_ret
      exact ⟨_, N, rfl, hN2, hK⟩
end Go.Proofs.Ytnfcigbiebbjdaa
