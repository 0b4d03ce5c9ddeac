/-
  The contract of the law's ordered: pushes in the order of their times.
  Conditions: none on where the slice starts.
-/
import Derived.Test.YtjlnkghjiaglmaaCopy2
import Derived.Laws.Bits128
namespace Go.Proofs.Ytjlnkghjiaglmaa
open Go.RowKit

theorem and_1023 (n : Int) : bits .and .i64 n 1023 = n % 1024 := by
  have h127 : (BitVec.ofInt 64 1023).toNat = 2 ^ 10 - 1 := by decide
  have key : (BitVec.ofInt 64 n &&& BitVec.ofInt 64 1023).toNat = (n % ((2 ^ 64 : Nat) : Int)).toNat % 2 ^ 10 := by
    rw [BitVec.toNat_and, BitVec.toNat_ofInt, h127, Nat.and_two_pow_sub_one_eq_mod]
  show IntKind.i64.wrap ((BitVec.ofInt 64 n &&& BitVec.ofInt 64 1023).toNat : Nat) = n % 1024
  rw [key, IntKind.wrap_i64]
  omega
theorem and_65535 (n : Int) : bits .and .i64 n 65535 = n % 65536 := by
  have h127 : (BitVec.ofInt 64 65535).toNat = 2 ^ 16 - 1 := by decide
  have key : (BitVec.ofInt 64 n &&& BitVec.ofInt 64 65535).toNat = (n % ((2 ^ 64 : Nat) : Int)).toNat % 2 ^ 16 := by
    rw [BitVec.toNat_and, BitVec.toNat_ofInt, h127, Nat.and_two_pow_sub_one_eq_mod]
  show IntKind.i64.wrap ((BitVec.ofInt 64 n &&& BitVec.ofInt 64 65535).toNat : Nat) = n % 65536
  rw [key, IntKind.wrap_i64]
  omega
theorem and_1048575 (n : Int) : bits .and .i64 n 1048575 = n % 1048576 := by
  have h127 : (BitVec.ofInt 64 1048575).toNat = 2 ^ 20 - 1 := by decide
  have key : (BitVec.ofInt 64 n &&& BitVec.ofInt 64 1048575).toNat = (n % ((2 ^ 64 : Nat) : Int)).toNat % 2 ^ 20 := by
    rw [BitVec.toNat_and, BitVec.toNat_ofInt, h127, Nat.and_two_pow_sub_one_eq_mod]
  show IntKind.i64.wrap ((BitVec.ofInt 64 n &&& BitVec.ofInt 64 1048575).toNat : Nat) = n % 1048576
  rw [key, IntKind.wrap_i64]
  omega

/-- The pushes that ordered makes, from a time on. -/
def ordG : Int → List (Int × Int) → List (Int × Int)
  | _, [] => []
  | s, x :: l => (s + x.1 % 1024, x.2 % 3 + 1) :: ordG (s + x.1 % 1024) l
theorem ordG_step {l : List (Int × Int)} {k : Nat} {t b s : Int} (h : l[k]? = some (t, b)) : ordG s (l.drop k) = (s + t % 1024, b % 3 + 1) :: ordG (s + t % 1024) (l.drop (k + 1)) := by
  have hk : k < l.length := (List.getElem?_eq_some_iff.1 h).1
  have e : l[k] = (t, b) := (List.getElem?_eq_some_iff.1 h).2
  rw [List.drop_eq_getElem_cons hk, ordG, e]
theorem ordG_length : ∀ (l : List (Int × Int)) (s : Int), (ordG s l).length = l.length
  | [], _ => rfl
  | x :: l, s => by simp [ordG, ordG_length l]

/-- The two cells that are laid at once. -/
theorem cells_two (w : World) (x y : Value) (t : TypeId) : ∀ j u, [x, y][j]? = some u → (w.alloc (.cells #[x, y] t)).cell? ((⟨w.heap.size, 0, none⟩ : Addr).add j) = some u := by
  intro j u h
  have hc := (Blk.new w t #[x, y]).cell j
  rw [Addr.add_lit, Nat.zero_add, hc, ← h, List.getElem?_toArray]
theorem add_one (a : Addr) (j : Nat) : (⟨(a.add j).block, (a.add j).off + 1, none⟩ : Addr) = a.add (j + 1) := by
  unfold Addr.add
  by_cases h : j = 0
  · simp [h]
  · simp [h, Nat.add_assoc]
theorem RowA.at_ {w : World} {A : Option Addr} {n k : Nat} {l : List (Int × Int)} (h : RowA w A n l) (hk : k < n) : ∃ a t b, A = some a ∧ a.block < w.heap.size ∧ l[k]? = some (t, b) ∧
    w.cell? (a.add (k * 2)) = some (.int .i64 t) ∧ w.cell? ⟨(a.add (k * 2)).block, (a.add (k * 2)).off + 1, none⟩ = some (.int .i64 b) := by
  obtain ⟨a, e, hg, hc⟩ := h.2 (by omega)
  have hl : k < l.length := by have := h.1; omega
  obtain ⟨h1, h2⟩ := hc k l[k].1 l[k].2 (List.getElem?_eq_getElem hl)
  exact ⟨a, _, _, e, hg, List.getElem?_eq_getElem hl, h1, by rw [add_one]; exact h2⟩

/-- What is kept in the loop. -/
def OrdK (w : World) (L : List (Int × Int)) (k : Nat) (s : Int) (v : Value) (wr : World) : Prop :=
  ∃ acc : List (Int × Int), acc.length = k ∧ ordG 0 L = acc ++ ordG s (L.drop k) ∧ wr.ownsRow w.heap.size 36 2 v k (flat acc) ∧ Below w.heap.size w wr
def OrdR (w : World) (l : List (Int × Int)) (m : Nat) (e : Ending) (w' : World) : Prop := ∃ A c, e = .returned (.slice A m c) ∧ Row2 w' A m l ∧ Below w.heap.size w w' ∧ (A = none → c = 0)
/-- What an owned value looks like, where it is nil too. -/
theorem own_slice0 {w : World} {base E s : Nat} {v : Value} {n : Nat} {xs : List Value} (h : w.ownsRow base E s v n xs) : ∃ A c, v = .slice A n c ∧ (A = none → c = 0) := by
  rcases h.2 with ⟨h1, h2⟩ | ⟨g, cap, cur, h1, _⟩
  · exact ⟨none, 0, by rw [h1, h2], fun _ => rfl⟩
  · exact ⟨_, _, h1, fun h => by cases h⟩

set_option maxHeartbeats 1000000 in
theorem ordered_any (A : Option Addr) (n cap : Nat) (l : List (Int × Int)) (w : World) (hr : RowA w A n l) :
    Calls Try.prog 29 #[.slice A n cap] w (OrdR w (ordG 0 (l.take 40)) (min n 40)) := by
  obtain ⟨i0, hi, hz0, hz1, hz2⟩ := info_parts Try.info36
  have Hi := Lib.hid hi
  have Hz0 := Lib.hid hz0
  have Hz1 := Lib.hid hz1
  have Hz2 := Lib.hid hz2
  clear hi hz0 hz1 hz2
  go_enter Try.func29, Try.ntmps29
  go_wp2_with fail
  go_loopw [3, 4, 5] (fun v s i wr => ∃ (k : Nat) (a : Int), k ≤ n ∧ k ≤ 40 ∧ i = .int .i64 k ∧ s = .int .i64 a ∧ 0 ≤ a ∧ a ≤ 1023 * k ∧ OrdK w (l.take 40) k a v wr) (fun _ _ i _ => n - (intOf i).toNat)
  case atStart =>
    refine ⟨0, 0, Nat.zero_le _, Nat.zero_le _, rfl, rfl, Int.le_refl _, by simp, [], rfl, rfl, ?_, (Below.refl _ _).alloc (Nat.le_refl _) _⟩
    exact World.ownsRow_made (base := w.heap.size) (e := 36) (size := 2) w #[] 0 (by simp) (by unfold maxLen; omega) (by simp)
  case round =>
    obtain ⟨k, s, hk, hk4, rfl, rfl, s0, s1, hK⟩ := hrel
    obtain ⟨v, hv3⟩ : ∃ v, v = u3 := ⟨_, rfl⟩
    subst hv3
    obtain ⟨acc, ha, hac, hown, hb⟩ := hK
    have Hac := Lib.hid hac
    clear hac
    have hz := hb.size
    by_cases hlt : k < n ∧ k < 40
    · obtain ⟨hl1, hl2⟩ := hlt
      obtain ⟨a, t, b, rfl, hg, hx, hc1, hc2⟩ := (hr.later hb).at_ hl1
      have hX := Lib.hid (show (l.take 40)[k]? = some (t, b) by rw [List.getElem?_take, if_pos hl2]; exact hx)
      clear hx
      have q1 := and_1023 t
      have q2 : 0 ≤ t % 1024 ∧ t % 1024 ≤ 1023 := by omega
      generalize ht : t % 1024 = t' at *
      have Ht := Lib.hid ht
      clear ht
      have q3 : 0 ≤ b % 3 ∧ b % 3 ≤ 2 := by omega
      generalize hb3 : b % 3 = b' at *
      have Hb3 := Lib.hid hb3
      clear hb3
      go_wp2_with (first | go_at_call 48; refine (fold_any _ _ _ (by omega) (by omega)).mono ?_; rw [Hb3.out]; rintro e w' ⟨rfl, rfl⟩ | at_builtin; refine wpList_append_lies _ rfl (.tmp 25) (.tmp 35) 33 rfl w.heap.size 36 i0 (.agg #[.int .i64 0, .int .i64 0]) 2 16 Try.underlying33 Hi.out Hz0.out Hz1.out Hz2.out rfl (by decide) _ _ _ rfl (hown.alloc _) ⟨wr.heap.size, 0, none⟩ 1 1 [.int .i64 (s + t'), .int .i64 (b' + 1)] rfl rfl ?c1 ?c2 (by decide) ?c3 ?c4 ?c5 _ rfl ?_)
      case c1 => exact cells_two _ _ _ _
      case c2 => simp [Value.oneCell']
      case c3 => unfold maxLen; omega
      case c4 => omega
      case c5 => simp; omega
      intro g cap' w2 hown2 hgrow _ _
      have hb2 := (hb.alloc (by omega) (.cells #[.int .i64 (s + t'), .int .i64 (b' + 1)] 36)).grown hgrow (by simp; omega) (fun j hj => (hown.lt j hj).1)
      go_wp2_with fail
      go_roundw
      case rel =>
        refine ⟨k + 1, s + t', by omega, by omega, by go_num, rfl, by omega, by omega, acc ++ [(s + t', b' + 1)], by simp [ha], ?_, ?_, hb2⟩
        · rw [Hac.out, ordG_step hX.out, Ht.out, Hb3.out]
          simp
        · rw [flat_append]
          exact hown2
      case measure => simp [intOf]; omega
    · have hkm : k = min n 40 := by omega
      have HD := Lib.hid (show ordG 0 (l.take 40) = acc by
        rw [Hac.out, List.drop_of_length_le (by rw [List.length_take, hr.1]; omega)]
        exact List.append_nil _)
      obtain ⟨B, cB, hvB, hnB⟩ := own_slice0 hown
      have Hv := Lib.hid hvB
      clear hvB Hac
      have done : OrdR w (ordG 0 (l.take 40)) (min n 40) (.returned v) wr := by
        rw [Hv.out] at hown
        refine ⟨B, cB, by rw [Hv.out, hkm], ?_, hb, hnB⟩
        rw [HD.out, ← hkm]
        exact own_row2 hown
      by_cases h1 : k < n
      · have h2 : k = 40 := by omega
        have h3 : ((k : Int) < 40) = False := by simp; omega
        go_wp2_with fail
        go_ret
        exact done
      · have h2 : k = n := by omega
        go_wp2_with fail
        go_ret
        exact done
end Go.Proofs.Ytjlnkghjiaglmaa
