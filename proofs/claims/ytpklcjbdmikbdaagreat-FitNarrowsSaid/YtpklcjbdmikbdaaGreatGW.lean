/-
  The seat's texts WideA WideB WideC WideD in one: the contracts of the functions that the law reaches, and the plain laws that they rest on.
  Conditions: as each theorem states them.
-/
import Derived.Test.YtpklcjbdmikbdaaGreatGF
import Derived.Test.YtpklcjbdmikbdaaGreatGP
import Derived.Laws.Bits64b
import Derived.Outline
import Derived.Deep.LoopGhost
namespace Go.Proofs.YtpklcjbdmikbdaaGreat
open Go.RowKit

/-- A slice that reads as a list of limbs and starts at the head of a block. -/
def RowU (w : World) (A : Option Addr) (n : Nat) (l : List Nat) : Prop :=
  l.length = n ∧ (0 < n → ∃ g, A = some ⟨g, 0, none⟩ ∧ g < w.heap.size ∧ ∀ (k : Nat) (v : Nat), l[k]? = some v → w.cell? ⟨g, k, none⟩ = some (.int .u32 v))
section
variable {w w' : World} {A : Option Addr} {n : Nat} {l : List Nat}
theorem RowU.later (h : RowU w A n l) (hb : Below w.heap.size w w') : RowU w' A n l :=
  ⟨h.1, fun hn => by
    obtain ⟨g, e, hg, hc⟩ := h.2 hn
    exact ⟨g, e, Nat.lt_of_lt_of_le hg hb.size, fun k v hk => (hb.cell (p := ⟨g, k, none⟩) hg).trans (hc k v hk)⟩⟩
theorem RowU.at_ {k : Nat} (h : RowU w A n l) (hk : k < n) : ∃ g, A = some ⟨g, 0, none⟩ ∧ g < w.heap.size ∧ w.cell? ⟨g, k, none⟩ = some (.int .u32 ((l.getD k 1 : Nat) : Int)) := by
  obtain ⟨g, e, hg, hc⟩ := h.2 (by omega)
  have hl : k < l.length := by have := h.1; omega
  refine ⟨g, e, hg, hc k _ ?_⟩
  rw [List.getD_eq_getElem?_getD, List.getElem?_eq_getElem hl]
  rfl
theorem RowU.take {m : Nat} (h : RowU w A n l) (hm : m ≤ n) : RowU w A m (l.take m) :=
  ⟨by rw [List.length_take, h.1]; omega, fun h0 => by
    obtain ⟨g, e, hg, hc⟩ := h.2 (by omega)
    refine ⟨g, e, hg, fun k v hk => hc k v ?_⟩
    rw [List.getElem?_take] at hk
    split at hk
    · exact hk
    · simp at hk⟩
end
theorem limb_at {l : List Nat} (hl : Limb l) {k : Nat} : l.getD k 1 < 4294967296 := by
  rw [List.getD_eq_getElem?_getD]
  cases e : l[k]? with
  | none => simp
  | some v => exact hl v (List.mem_of_getElem? e)
/-- A size in memory: its value is k. -/
def MagW (w : World) (v : Value) (k : Nat) : Prop := ∃ A c, v = .slice A (limbs k).length c ∧ RowU w A (limbs k).length (limbs k)
theorem MagW.later {w w' : World} {v : Value} {k : Nat} (h : MagW w v k) (hb : Below w.heap.size w w') : MagW w' v k := by
  obtain ⟨A, c, e, hr⟩ := h
  exact ⟨A, c, e, hr.later hb⟩
/-- What stripping returns. -/
def TrimR (w : World) (k : Nat) (e : Ending) (w' : World) : Prop := ∃ v, e = .returned v ∧ MagW w' v k ∧ Below w.heap.size w w'
set_option maxRecDepth 100000 in
set_option maxHeartbeats 4000000 in
theorem trim_any (A : Option Addr) (n c : Nat) (l : List Nat) (w : World) (rA : RowU w A n l) (hl : Limb l) (_hn : n ≤ 1000) (hc : n ≤ c) : Calls Tryz.prog 57 #[.slice A n c] w (TrimR w (val l)) := by
  have HL := Lib.hid hl
  have HR := Lib.hid rA.1
  clear hl
  go_enter Tryz.func57, Tryz.ntmps57
  go_wp2_with fail
  go_loopw [0] (fun v wr => ∃ m : Nat, m ≤ n ∧ v = .slice A m c ∧ Hid (val (l.take m) = val l) ∧ Below w.heap.size w wr) (fun v _ => match v with | .slice _ m _ => m | _ => 0)
  case atStart => exact ⟨n, Nat.le_refl _, rfl, by show _ = _; rw [List.take_of_length_le (by rw [HR.out]; exact Nat.le_refl _)], Below.refl _ _⟩
  case round =>
    obtain ⟨m, hm, rfl, hv, hb⟩ := hrel
    have rA2 := rA.later hb
    by_cases h0 : m = 0
    · subst h0
      have HF : Hid (MagW wr (.slice A 0 c) (val l)) := by
        have e : val l = 0 := by rw [← hv.out]; rfl
        rw [e]
        refine ⟨A, c, by rw [limbs_zero]; rfl, ?_⟩
        rw [limbs_zero]
        exact ⟨rfl, fun h => by simp at h⟩
      go_wp2_with fail
      go_ret
      exact ⟨_, rfl, HF.out, hb⟩
    · obtain ⟨q, rfl⟩ : ∃ q, m = q + 1 := ⟨m - 1, by omega⟩
      have hmt : decide (((q + 1 : Nat) : Int) > 0) = true := by simp
      obtain ⟨g, rfl, hg, hcell⟩ := rA2.at_ (k := q) (by omega)
      obtain ⟨x, hx⟩ : ∃ x, x = l.getD q 1 := ⟨_, rfl⟩
      rw [← hx] at hcell
      have HX := Lib.hid hx
      have RA2 := Lib.hid rA2
      clear h0 hx rA2 rA
      by_cases hx0 : x = 0
      · have hxt : ((x : Int) == 0) = true := by simp; omega
        have HV : Hid (val (l.take q) = val l) := by
          show _ = _
          rw [← val_strip (by rw [HR.out]; omega) (by rw [← HX.out]; exact hx0)]
          exact hv.out
        clear hx0 hv
        go_wp2_with fail
        go_roundw
        case rel => exact ⟨q, by omega, rfl, HV.out, hb⟩
        case measure => simp
      · have hxt : ((x : Int) == 0) = false := by simp; omega
        have HF : Hid (MagW wr (.slice (some ⟨g, 0, none⟩) (q + 1) c) (val l)) := by
          have e := limbs_take HL.out (m := q + 1) (by rw [HR.out]; exact hm) (.inr (by rw [Nat.add_sub_cancel, ← HX.out]; exact hx0))
          rw [hv.out] at e
          refine ⟨some ⟨g, 0, none⟩, c, ?_, ?_⟩
          · rw [e, List.length_take, HR.out, Nat.min_eq_left hm]
          · rw [e, List.length_take, HR.out, Nat.min_eq_left hm]
            exact RA2.out.take hm
        clear hx0 hv
        go_wp2_with fail
        go_ret
        exact ⟨_, rfl, HF.out, hb⟩
theorem or_limb (m x y : Nat) (hm : m ≤ 1) (hx : x < 4294967296) (hy : y < 4294967296 ^ m) : bits .or .u64 (y : Int) (IntKind.u64.wrap ((x : Int) * 2 ^ (32 * m))) = ((y + 4294967296 ^ m * x : Nat) : Int) := by
  rcases (show m = 0 ∨ m = 1 by omega) with rfl | rfl
  · obtain rfl : y = 0 := by simpa using hy
    have e : IntKind.u64.wrap ((x : Int) * 2 ^ (32 * 0)) = (x : Int) := by
      rw [IntKind.wrap_u64]; simp; omega
    rw [e, bits_or_u64_nat 0 x (by omega) (by omega)]
    simp
  · have e : IntKind.u64.wrap ((x : Int) * 2 ^ (32 * 1)) = ((4294967296 * x : Nat) : Int) := by
      rw [IntKind.wrap_u64, show (2 : Int) ^ (32 * 1) = 4294967296 by decide]
      omega
    have hy' : y < 2 ^ 32 := by simpa using hy
    rw [e, bits_or_u64_nat y (4294967296 * x) (by omega) (by omega), Nat.or_comm]
    have := Nat.two_pow_add_eq_or_of_lt hy' x
    rw [show (2 : Nat) ^ 32 = 4294967296 by decide] at this
    rw [← this]
    simp
    omega
set_option maxRecDepth 100000 in
set_option maxHeartbeats 4000000 in
theorem small_any (v : Value) (k : Nat) (w : World) (hv : MagW w v k) (hk : k < 18446744073709551616) : Calls Tryz.prog 79 #[v] w fun e w' => e = .returned (.tuple #[.int .u64 (k : Int), .bool true]) ∧ w = w' := by
  obtain ⟨A, c, rfl, rA⟩ := hv
  have hlen := limbs_len hk
  have HV := Lib.hid (val_limbs k)
  have HL : Hid (Limb (limbs k)) := fun a ha => limbs_lt ha
  generalize limbs k = l at *
  obtain ⟨n, hn⟩ : ∃ n, n = l.length := ⟨_, rfl⟩
  rw [← hn] at rA hlen ⊢
  have HN := Lib.hid hn
  clear hn
  go_enter Tryz.func79, Tryz.ntmps79
  go_wp2_with fail
  go_loopw [12, 4] (fun i x wr => ∃ m : Nat, m ≤ n ∧ i = .int .i64 m ∧ x = .int .u64 (val (l.take m) : Int) ∧ w = wr) (fun i _ _ => n - (intOf i).toNat)
  case atStart => exact ⟨0, Nat.zero_le _, rfl, rfl, rfl⟩
  case round =>
    obtain ⟨m, hm, rfl, rfl, rfl⟩ := hrel
    by_cases hlt : m < n
    · obtain ⟨g, rfl, hg, hcell⟩ := rA.at_ hlt
      have hx := limb_at (k := m) HL.out
      have HX : Hid (l[m]? = some (l.getD m 1)) := by
        show _ = _
        rw [List.getD_eq_getElem?_getD, List.getElem?_eq_getElem (by rw [← HN.out]; exact hlt)]; rfl
      generalize l.getD m 1 = x at *
      have hx2 : (x : Int) < 4294967296 := by omega
      have HS : Hid (val (l.take (m + 1)) = val (l.take m) + 4294967296 ^ m * x) := by
        show _ = _
        rw [List.take_add_one, HX.out, val_append, List.length_take, Nat.min_eq_left (by rw [← HN.out]; omega)]
        simp [val]
      have hy : Hid (val (l.take m) < 4294967296 ^ m) := by
        show _ < _
        rcases (show m = 0 ∨ m = 1 by omega) with rfl | rfl
        · simp [val]
        · have h0 : l.take 1 = [l.getD 0 1] := by
            cases l with
            | nil => have := HN.out; simp at this; omega
            | cons a l => rfl
          rw [h0]
          have := limb_at (k := 0) HL.out
          simp only [val]; omega
      generalize hye : val (l.take m) = y at *
      clear hye
      have HY := Lib.hid hy.out
      clear hy
      have hm1 : (m : Int) ≤ 1 := by omega
      go_wp2_with fail
      rw [or_limb m x y (by omega) hx HY.out, ← HS.out]
      go_roundw
      case rel => exact ⟨m + 1, by omega, by go_num, rfl, trivial⟩
      case measure => simp [intOf]; omega
    · obtain rfl : m = n := by omega
      have e : Hid (val (l.take m) = k) := by show _ = _; rw [HN.out, List.take_of_length_le (Nat.le_refl _)]; exact HV.out
      rw [e.out]
      go_wp2_with fail
      go_ret2
      exact ⟨rfl, rfl⟩
end Go.Proofs.YtpklcjbdmikbdaaGreat
namespace Go.Proofs.YtpklcjbdmikbdaaGreat
open Go.RowKit

theorem two_limbs {k : Nat} (h : k < 18446744073709551616) : Limb [k % 4294967296, k / 4294967296] ∧ val [k % 4294967296, k / 4294967296] = k := by
  constructor
  · intro a ha
    simp at ha
    omega
  · simp only [val]; omega
theorem rowU_two (w : World) (k : Nat) : RowU (w.alloc (.cells #[.int .u32 ((k : Int) % 4294967296), .int .u32 ((k : Int) / 4294967296)] 104)) (some ⟨w.heap.size, 0, none⟩) 2 [k % 4294967296, k / 4294967296] :=
  ⟨rfl, fun _ => ⟨_, rfl, by simp, fun i v hv => by
    have h := (Blk.new w 104 #[.int .u32 ((k : Int) % 4294967296), .int .u32 ((k : Int) / 4294967296)]).cell i
    rw [h]
    match i with
    | 0 => simp at hv; subst hv; rfl
    | 1 => simp at hv; subst hv; rfl
    | i + 2 => simp at hv⟩⟩
/-- A row of limbs is not in a block that begins with something else. -/
theorem RowU.far {w : World} {A : Option Addr} {n : Nat} {l : List Nat} {N : Nat} (h : RowU w A n l) (hc : ∀ x, w.cell? ⟨N, 0, none⟩ ≠ some (.int .u32 x)) {p : Addr} (hp : p.block = N) (u : Value) : RowU (w.setCell p u) A n l :=
  ⟨h.1, fun hn => by
    obtain ⟨g, e, hg, hcell⟩ := h.2 hn
    have hl : 0 < l.length := by rw [h.1]; exact hn
    have hgN : g ≠ N := by
      rintro rfl
      exact hc _ (hcell 0 _ (List.getElem?_eq_getElem hl))
    refine ⟨g, e, by simpa [World.setCell] using hg, fun k v hk => ?_⟩
    have h1 := hcell k v hk
    have hb := Below.heap_setCell w p u g (by rw [hp]; exact hgN)
    simp only [World.cell?] at h1 ⊢
    rw [hb]
    exact h1⟩
/-- Two limbs stripped. -/
theorem trim_two (w : World) (k : Nat) (h : k < 18446744073709551616) : Calls Tryz.prog 57 #[.slice (some ⟨w.heap.size, 0, none⟩) 2 2] (w.alloc (.cells #[.int .u32 ((k : Int) % 4294967296), .int .u32 ((k : Int) / 4294967296)] 104)) (TrimR (w.alloc (.cells #[.int .u32 ((k : Int) % 4294967296), .int .u32 ((k : Int) / 4294967296)] 104)) k) := by
  have h1 := two_limbs h
  have := trim_any _ 2 2 _ _ (rowU_two w k) h1.1 (by omega) (Nat.le_refl _)
  rw [h1.2] at this
  exact this
set_option maxRecDepth 100000 in
set_option maxHeartbeats 4000000 in
theorem of_any (n : Nat) (w : World) (hn : n < 9223372036854775808) : Calls Tryz.prog 39 #[.int .i64 (n : Int)] w fun e w' => ∃ v, e = .returned (.agg #[.bool false, v]) ∧ MagW w' v n ∧ Below w.heap.size w w' := by
  have h0 : decide ((n : Int) < 0) = false := by simp
  go_enter Tryz.func39, Tryz.ntmps39
  go_wp2_with fail
  have hb1 : Below w.heap.size w (w.alloc (.cells #[.bool false, .slice none 0 0] 75)) := (Below.refl _ _).alloc (Nat.le_refl _) _
  have k1 := Blk.new w 75 #[.bool false, .slice none 0 0]
  have hsz : (w.alloc (.cells #[.bool false, .slice none 0 0] 75)).heap.size = w.heap.size + 1 := by simp
  have M := trim_two (w.alloc (.cells #[.bool false, .slice none 0 0] 75)) n (by omega)
  rw [hsz] at M
  refine M.mono ?_
  rintro e w2 ⟨v, rfl, hv, hb2⟩
  have hb3 : Below (w.alloc (.cells #[.bool false, .slice none 0 0] 75)).heap.size (w.alloc (.cells #[.bool false, .slice none 0 0] 75)) w2 := ((Below.refl _ _).alloc (Nat.le_refl _) _).trans (hb2.mono (by simp))
  have k2 := k1.later hb3
  have hw2 := hb1.trans (hb3.mono (by rw [hsz]; exact Nat.le_succ _))
  have hc2 := k2.cell
  have hf2 := k2.frozen
  have hl2 := k2.lt
  have hs2 := hw2.size
  obtain ⟨A, c, rfl, rA⟩ := hv
  have RA := Lib.hid rA
  clear M hb1 hb2 hb3 k1 hsz rA
  go_wp2_with fail
  refine bodyPost_cell w.heap.size 75 #[.bool false, .slice A (limbs n).length c] (.agg #[.bool false, .slice A (limbs n).length c]) ((k2.set_ 0 (.bool false)).set_ 1 (.slice A (limbs n).length c)) ?_ ⟨_, rfl, ⟨A, c, rfl, ?_⟩, ?_⟩
  · intro W' hW'
    simp [results, Tryz.results39, go_sem, hW']
  · have h1 := RA.out.far (N := w.heap.size) (fun x => by rw [hc2]; simp) (p := ⟨w.heap.size, 0, none⟩) rfl (.bool false)
    exact h1.far (N := w.heap.size) (fun x => by rw [(k2.set_ 0 (.bool false)).cell]; simp) rfl _
  · exact (hw2.setCell (Nat.le_refl _) _).setCell (Nat.le_refl _) _
end Go.Proofs.YtpklcjbdmikbdaaGreat
namespace Go.Proofs.YtpklcjbdmikbdaaGreat
open Go.RowKit

/-- What division returns. -/
def DivR (w : World) (a b : Nat) (e : Ending) (w' : World) : Prop := ∃ q r, e = .returned (.tuple #[q, r]) ∧ MagW w' q (a / b) ∧ MagW w' r (a % b) ∧ Below w.heap.size w w'
set_option maxRecDepth 100000 in
set_option maxHeartbeats 4000000 in
theorem divided_any (va vb : Value) (a b : Nat) (w : World) (ha : MagW w va a) (hb : MagW w vb b) (h0 : 0 < b) (ha2 : a < 18446744073709551616) (hb2 : b < 18446744073709551616) : Calls Tryz.prog 59 #[va, vb] w (DivR w a b) := by
  have MA := Lib.hid fun w' h => small_any va a w' (ha.later (w := w) (w' := w') h) ha2
  have MB := Lib.hid fun w' h => small_any vb b w' (hb.later (w := w) (w' := w') h) hb2
  have hbz : ((b : Int) == 0) = false := by simp; omega
  have hbz2 : (0 : Int) < (b : Int) := by omega
  have hbi : (b : Int) < 18446744073709551616 := by omega
  have hai : (a : Int) < 18446744073709551616 := by omega
  obtain ⟨q, hq⟩ : ∃ q, q = a / b := ⟨_, rfl⟩
  obtain ⟨r, hr⟩ : ∃ r, r = a % b := ⟨_, rfl⟩
  have hq2 : q < 18446744073709551616 := by rw [hq]; exact Nat.lt_of_le_of_lt (Nat.div_le_self _ _) ha2
  have hr2 : r < 18446744073709551616 := by rw [hr]; exact Nat.lt_trans (Nat.mod_lt _ h0) hb2
  have HQ : Hid (IntKind.u64.wrap ((a : Int) / (b : Int)) = (q : Int)) := by
    show _ = _
    rw [hq, IntKind.wrap_u64, Int.natCast_ediv]
    refine Int.emod_eq_of_lt (by rw [← Int.natCast_ediv]; omega) ?_
    rw [← Int.natCast_ediv, ← hq]; omega
  have HR : Hid ((a : Int) % (b : Int) = (r : Int)) := by show _ = _; rw [hr, Int.natCast_emod]
  have HD : Hid (DivR w a b = fun e w' => ∃ x y, e = .returned (.tuple #[x, y]) ∧ MagW w' x q ∧ MagW w' y r ∧ Below w.heap.size w w') := by show _ = _; rw [hq, hr]; rfl
  rw [HD.out]
  clear ha hb ha2 hb2 hq hr HD
  go_enter Tryz.func59, Tryz.ntmps59
  go_wp2_with fail
  refine (MA.out w (Below.refl _ _)).mono ?_
  rintro e w1 ⟨rfl, rfl⟩
  go_wp2_with fail
  refine (MB.out w (Below.refl _ _)).mono ?_
  rintro e w1 ⟨rfl, rfl⟩
  go_wp2_with fail
  refine wp_region_later (by kernel_rfl) (by kernel_rfl) ?_
  repeat (go_big_quiet_step (fail))
  refine wpQuiet_nil ?_
  rintro w2 ⟨⟨_, hb2⟩, rfl⟩
  go_upto_region 5 with fail
  rw [HQ.out, HR.out]
  clear HQ HR MA MB hbz hbz2 hbi hai h0
  have hqi : (q : Int) < 18446744073709551616 := by omega
  have hri : (r : Int) < 18446744073709551616 := by omega
  have MQ := trim_two w2 q hq2
  go_wp2_with fail
  refine MQ.mono ?_
  rintro e w3 ⟨x, rfl, hx, hb3⟩
  have hb4 : Below w.heap.size w w3 := hb2.trans ((((Below.refl w2.heap.size w2).alloc (Nat.le_refl _) (.cells #[.int .u32 ((q : Int) % 4294967296), .int .u32 ((q : Int) / 4294967296)] 104)).trans (hb3.mono (by simp))).mono hb2.size)
  clear hb2 hb3 MQ
  have MR := trim_two w3 r hr2
  go_wp2_with fail
  refine MR.mono ?_
  rintro e w4 ⟨y, rfl, hy, hb5⟩
  have hb6 : Below w3.heap.size w3 w4 := ((Below.refl w3.heap.size w3).alloc (Nat.le_refl _) (.cells #[.int .u32 ((r : Int) % 4294967296), .int .u32 ((r : Int) / 4294967296)] 104)).trans (hb5.mono (by simp))
  have hx2 := hx.later hb6
  clear hb5 MR hx
  go_wp2_with fail
  go_ret2
  exact ⟨x, y, rfl, hx2, hy, hb4.trans (hb6.mono hb4.size)⟩
set_option maxRecDepth 100000 in
set_option maxHeartbeats 4000000 in
theorem common_any (va vb : Value) (a b : Nat) (w : World) (ha : MagW w va a) (hb : MagW w vb b) (ha2 : a < 18446744073709551616) (hb2 : b < 18446744073709551616) : Calls Tryz.prog 58 #[va, vb] w (TrimR w (a.gcd b)) := by
  go_enter Tryz.func58, Tryz.ntmps58
  go_wp2_with fail
  go_loopg [0, 1] b (fun k u v wr => ∃ x : Nat, MagW wr u x ∧ MagW wr v k ∧ Hid (x.gcd k = a.gcd b) ∧ x < 18446744073709551616 ∧ k < 18446744073709551616 ∧ Below w.heap.size w wr)
  case atStart => exact ⟨a, ha, hb, rfl, ha2, hb2, Below.refl _ _⟩
  case round =>
    obtain ⟨x, hu, hv, hg, hx, hk, hbw⟩ := hrel
    clear ha hb ha2 hb2
    rcases Nat.eq_zero_or_pos gk with h0 | h0
    · have HF : Hid (MagW wr u0 (a.gcd b)) := by
        have := hg.out
        rw [h0, Nat.gcd_zero_right] at this
        rw [← this]; exact hu
      obtain ⟨A, c, rfl, rA⟩ := hv
      have hl : (limbs gk).length = 0 := limbs_nil.2 h0
      rw [hl]
      clear rA hl hu h0
      go_wp2_with fail
      go_ret
      exact ⟨_, rfl, HF.out, hbw⟩
    · have HV := Lib.hid hv
      obtain ⟨A, c, rfl, rA⟩ := hv
      have hl : 0 < (limbs gk).length := by
        rcases Nat.eq_zero_or_pos (limbs gk).length with h1 | h1
        · have := limbs_nil.1 h1; omega
        · exact h1
      have HM := Lib.hid (divided_any _ _ x gk wr hu HV.out h0 hx hk)
      have HU := Lib.hid hu
      have HG : Hid (gk.gcd (x % gk) = a.gcd b) := by
        show _ = _
        rw [← hg.out, Nat.gcd_comm x gk, Nat.gcd_rec gk x, Nat.gcd_comm]
      have hlt := Nat.mod_lt x h0
      clear rA hu hg
      generalize (limbs gk).length = ln at *
      go_wp2_with fail
      refine HM.out.mono ?_
      rintro e w2 ⟨q, r, rfl, hq, hr, hb2⟩
      have HR := Lib.hid hr
      have HV2 := Lib.hid (HV.out.later hb2)
      have hb3 := hbw.trans (hb2.mono hbw.size)
      clear hq hr hb2 HM
      go_wp2_with fail
      go_roundg (x % gk)
      case measure => exact hlt
      case rel => exact ⟨gk, HV2.out, HR.out, HG.out, hk, by omega, hb3⟩
end Go.Proofs.YtpklcjbdmikbdaaGreat
namespace Go.Proofs.YtpklcjbdmikbdaaGreat
open Go.RowKit

set_option maxHeartbeats 4000000 in
theorem made_any (v : Value) (k : Nat) (w : World) (hv : MagW w v k) : Calls Tryz.prog 60 #[.bool false, v] w fun e w' => e = .returned (.agg #[.bool false, v]) ∧ MagW w' v k ∧ Below w.heap.size w w' := by
  obtain ⟨A, c, rfl, rA⟩ := hv
  have hb1 : Below w.heap.size w (w.alloc (.cells #[.bool false, .slice none 0 0] 75)) := (Below.refl _ _).alloc (Nat.le_refl _) _
  have RA := Lib.hid rA
  clear rA hb1
  go_enter Tryz.func60, Tryz.ntmps60
  go_wp2_with fail
  have hb2 : Below w.heap.size w (w.alloc (.cells #[.bool false, .slice A (limbs k).length c] 75)) := (Below.refl _ _).alloc (Nat.le_refl _) _
  refine bodyPost_cell w.heap.size 75 #[.bool false, .slice A (limbs k).length c] (.agg #[.bool false, .slice A (limbs k).length c]) (Blk.new w 75 _) ?_ ⟨rfl, ⟨A, c, rfl, RA.out.later hb2⟩, hb2⟩
  intro W' hW'
  simp [results, Tryz.results60, go_sem, hW']
set_option maxHeartbeats 4000000 in
theorem Small_any (v : Value) (k : Nat) (w : World) (hv : MagW w v k) (hk : k ≤ 4611686018427387904) : Calls Tryz.prog 61 #[.agg #[.bool false, v]] w fun e w' => e = .returned (.tuple #[.int .i64 (k : Int), .bool true]) ∧ Below w.heap.size w w' := by
  have hb1 : Below w.heap.size w (w.alloc (.cells #[.bool false, v] 75)) := (Below.refl _ _).alloc (Nat.le_refl _) _
  have k1 := Blk.new w 75 #[.bool false, v]
  have HM := Lib.hid (small_any v k _ (hv.later hb1) (by omega))
  obtain ⟨A, c, rfl, rA⟩ := hv
  have c1 := k1.cell
  have l1 := k1.lt
  have hki : (k : Int) ≤ 4611686018427387904 := by omega
  have hkd : decide ((k : Int) > 4611686018427387904) = false := by simp; omega
  clear rA
  go_enter Tryz.func61, Tryz.ntmps61
  go_wp2_with fail
  refine HM.out.mono ?_
  rintro e w' ⟨rfl, rfl⟩
  go_wp2_with fail
  go_ret2
  exact ⟨rfl, hb1⟩
set_option maxHeartbeats 4000000 in
theorem ratio_any (va vb : Value) (a b : Nat) (w : World) (ha : MagW w va a) (hb : MagW w vb b) : Calls Tryz.prog 38 #[.agg #[.bool false, va], .agg #[.bool false, vb]] w fun e w' => e = .returned (.agg #[.bool false, va, .bool false, vb]) ∧ MagW w' va a ∧ MagW w' vb b ∧ Below w.heap.size w w' := by
  obtain ⟨A, c, rfl, rA⟩ := ha
  obtain ⟨B, d, rfl, rB⟩ := hb
  have RA := Lib.hid rA
  have RB := Lib.hid rB
  clear rA rB
  obtain ⟨n, hn⟩ : ∃ n, n = (limbs a).length := ⟨_, rfl⟩
  obtain ⟨m, hm⟩ : ∃ m, m = (limbs b).length := ⟨_, rfl⟩
  have HN := Lib.hid hn
  have HM := Lib.hid hm
  rw [← hn, ← hm]
  clear hn hm
  go_enter Tryz.func38, Tryz.ntmps38
  go_wp2_with fail
  have e : ((w.alloc (.cells #[.bool false, .slice A n c] 75)).alloc (.cells #[.bool false, .slice B m d] 75)).heap.size = w.heap.size + 2 := by simp
  have hb2 : Below w.heap.size w (((w.alloc (.cells #[.bool false, .slice A n c] 75)).alloc (.cells #[.bool false, .slice B m d] 75)).alloc (.cells #[.bool false, .slice A n c, .bool false, .slice B m d] 77)) :=
    (((Below.refl _ _).alloc (Nat.le_refl _) _).alloc (by simp) _).alloc (by simp; omega) _
  have hE := Blk.new ((w.alloc (.cells #[.bool false, .slice A n c] 75)).alloc (.cells #[.bool false, .slice B m d] 75)) 77 #[.bool false, .slice A n c, .bool false, .slice B m d]
  rw [e] at hE
  refine bodyPost_cell (w.heap.size + 2) 77 #[.bool false, .slice A n c, .bool false, .slice B m d] (.agg #[.bool false, .slice A n c, .bool false, .slice B m d]) hE ?_ ⟨rfl, ⟨A, c, by rw [HN.out], RA.out.later hb2⟩, ⟨B, d, by rw [HM.out], RB.out.later hb2⟩, hb2⟩
  intro W' hW'
  simp [results, Tryz.results38, go_sem, hW']
/-- What a fraction in lowest terms is. -/
def FracR (w : World) (n d : Nat) (e : Ending) (w' : World) : Prop := e = .returned (.tuple #[.agg #[.int .i64 ((n / n.gcd d : Nat) : Int), .int .i64 ((d / n.gcd d : Nat) : Int)], .int .i64 0]) ∧ Below w.heap.size w w'
set_option maxRecDepth 100000 in
set_option maxHeartbeats 8000000 in
theorem frac_any (va vb : Value) (n d : Nat) (w : World) (ha : MagW w va n) (hb : MagW w vb d) (hd : 0 < d) (hn2 : n ≤ 4611686018427387904) (hd2 : d ≤ 4611686018427387904) : Calls Tryz.prog 40 #[.agg #[.bool false, va, .bool false, vb]] w (FracR w n d) := by
  have hb1 : Below w.heap.size w (w.alloc (.cells #[.bool false, va, .bool false, vb] 77)) := (Below.refl _ _).alloc (Nat.le_refl _) _
  have k1 := Blk.new w 77 #[.bool false, va, .bool false, vb]
  have hg0 : 0 < n.gcd d := Nat.gcd_pos_of_pos_right _ hd
  obtain ⟨g, hg⟩ : ∃ g, g = n.gcd d := ⟨_, rfl⟩
  have hgd : g ≤ d := by rw [hg]; exact Nat.gcd_le_right _ hd
  have hq1 : n / g ≤ n := Nat.div_le_self _ _
  have hq2 : d / g ≤ d := Nat.div_le_self _ _
  have HG := Lib.hid hg
  rw [← hg] at hg0
  clear hg
  obtain ⟨qn, hqn⟩ : ∃ q, n / g = q := ⟨_, rfl⟩
  obtain ⟨qd, hqd⟩ : ∃ q, d / g = q := ⟨_, rfl⟩
  have HQ1 := Lib.hid hqn
  have HQ2 := Lib.hid hqd
  rw [hqn] at hq1
  rw [hqd] at hq2
  clear hqn hqd
  have hsz : (w.alloc (.cells #[.bool false, va, .bool false, vb] 77)).heap.size = w.heap.size + 1 := by simp
  have kR := Blk.new (w.alloc (.cells #[.bool false, va, .bool false, vb] 77)) 30 #[.int .i64 0, .int .i64 0]
  rw [hsz] at kR
  have hb2 : Below (w.alloc (.cells #[.bool false, va, .bool false, vb] 77)).heap.size (w.alloc (.cells #[.bool false, va, .bool false, vb] 77)) ((w.alloc (.cells #[.bool false, va, .bool false, vb] 77)).alloc (.cells #[.int .i64 0, .int .i64 0] 30)) := (Below.refl _ _).alloc (Nat.le_refl _) _
  have kN := k1.later hb2
  have hb0 := hb1.trans (hb2.mono (by rw [hsz]; exact Nat.le_succ _))
  have hC := common_any va vb n d _ (ha.later hb0) (hb.later hb0) (by omega) (by omega)
  rw [← HG.out] at hC
  have HC := Lib.hid hC
  clear hb1 hb2 hsz k1 hC
  go_enter Tryz.func40, Tryz.ntmps40
  go_wp2_with fail
  refine HC.out.mono ?_
  rintro e w1 ⟨vg, rfl, hvg, hb3⟩
  have kN1 := kN.later hb3
  have kR1 := kR.later hb3
  have hb4 := hb0.trans (hb3.mono hb0.size)
  have cN := kN1.cell
  have lN := kN1.lt
  have HD1 := Lib.hid (divided_any va vg n g w1 (ha.later hb4) hvg hg0 (by omega) (by omega))
  clear HC kN kR hb3 hb0
  go_wp2_with fail
  refine HD1.out.mono ?_
  rintro e w2 ⟨x, x', rfl, hx, _, hb5⟩
  rw [HQ1.out] at hx
  have kN2 := kN1.later hb5
  have kR2 := kR1.later hb5
  have hb6 := hb4.trans (hb5.mono hb4.size)
  have hvg2 := hvg.later hb5
  clear cN lN
  have cN := kN2.cell
  have lN := kN2.lt
  have HD2 := Lib.hid (divided_any vb vg d g w2 (hb.later hb6) hvg2 hg0 (by omega) (by omega))
  clear HD1 kN1 kR1 hb4 hvg hb5
  go_wp2_with fail
  refine HD2.out.mono ?_
  rintro e w3 ⟨y, y', rfl, hy, _, hb7⟩
  rw [HQ2.out] at hy
  have kN3 := kN2.later hb7
  have kR3 := kR2.later hb7
  have hb8 := hb6.trans (hb7.mono hb6.size)
  have hx3 := hx.later hb7
  clear cN lN
  have cN := kN3.cell
  have lN := kN3.lt
  have HM1 := Lib.hid (made_any x qn w3 hx3)
  clear HD2 kN2 kR2 hb6 hvg2 hb7 hx hx3
  go_wp2_with fail
  refine HM1.out.mono ?_
  rintro e w4 ⟨rfl, hx4, hb9⟩
  have kR4 := kR3.later hb9
  have hy4 := hy.later hb9
  have hb10 := hb8.trans (hb9.mono hb8.size)
  have HS1 := Lib.hid (Small_any x qn w4 hx4 (by omega))
  clear HM1 kN3 kR3 hb8 hb9 hx4 cN lN hy
  go_wp2_with fail
  refine HS1.out.mono ?_
  rintro e w5 ⟨rfl, hb11⟩
  have kR5 := kR4.later hb11
  have hy5 := hy4.later hb11
  have hb12 := hb10.trans (hb11.mono hb10.size)
  have HM2 := Lib.hid (made_any y qd w5 hy5)
  clear HS1 kR4 hb10 hb11 hy4 hy5
  go_wp2_with fail
  refine HM2.out.mono ?_
  rintro e w6 ⟨rfl, hy6, hb13⟩
  have kR6 := kR5.later hb13
  have hb14 := hb12.trans (hb13.mono hb12.size)
  have HS2 := Lib.hid (Small_any y qd w6 hy6 (by omega))
  clear HM2 kR5 hb12 hb13 hy6
  go_wp2_with fail
  refine HS2.out.mono ?_
  rintro e w7 ⟨rfl, hb15⟩
  have kR7 := kR6.later hb15
  have hb16 := hb14.trans (hb15.mono hb14.size)
  clear HS2 kR6 hb14 hb15
  have cR := kR7.cell
  have fR := kR7.frozen
  have lR := kR7.lt
  go_wp2_with fail
  refine bodyPost_cell (w.heap.size + 1) 30 #[.int .i64 (qn : Int), .int .i64 (qd : Int)] (.tuple #[.agg #[.int .i64 (qn : Int), .int .i64 (qd : Int)], .int .i64 0]) ((kR7.set_ 0 (.int .i64 (qn : Int))).set_ 1 (.int .i64 (qd : Int))) ?_ ⟨by rw [← HG.out, HQ1.out, HQ2.out], (hb16.setCell (Nat.le_succ _) _).setCell (Nat.le_succ _) _⟩
  intro W' hW'
  simp [results, Tryz.results40, go_sem, hW']
set_option maxRecDepth 100000 in
set_option maxHeartbeats 4000000 in
theorem make_any (n d : Nat) (w : World) (hd : 0 < d) (hn2 : n ≤ 4611686018427387904) (hd2 : d ≤ 4611686018427387904) : Calls Tryz.prog 24 #[.int .i64 (n : Int), .int .i64 (d : Int)] w (FracR w n d) := by
  have hd0 : ((d : Int) == 0) = false := by simp; omega
  have hb1 : Below w.heap.size w (w.alloc (.cells #[.int .i64 0, .int .i64 0] 30)) := (Below.refl _ _).alloc (Nat.le_refl _) _
  have k1 := Blk.new w 30 #[.int .i64 0, .int .i64 0]
  have HN := Lib.hid (of_any n (w.alloc (.cells #[.int .i64 0, .int .i64 0] 30)) (by omega))
  go_enter Tryz.func24, Tryz.ntmps24
  go_wp2_with fail
  refine HN.out.mono ?_
  rintro e w2 ⟨vn, rfl, hn, hb2⟩
  have k2 := k1.later hb2
  have hb3 := hb1.trans (hb2.mono hb1.size)
  have HD := Lib.hid (of_any d w2 (by omega))
  clear HN hb1 hb2 k1
  go_wp2_with fail
  refine HD.out.mono ?_
  rintro e w3 ⟨vd, rfl, hdd, hb4⟩
  have k3 := k2.later hb4
  have hn3 := hn.later hb4
  have hb5 := hb3.trans (hb4.mono hb3.size)
  have HR := Lib.hid (ratio_any vn vd n d w3 hn3 hdd)
  clear HD hb3 hb4 k2 hn hn3 hdd
  go_wp2_with fail
  refine HR.out.mono ?_
  rintro e w4 ⟨rfl, hn4, hd4, hb6⟩
  have k4 := k3.later hb6
  have hb7 := hb5.trans (hb6.mono hb5.size)
  have HF := Lib.hid (frac_any vn vd n d w4 hn4 hd4 hd hn2 hd2)
  clear HR hb5 hb6 k3 hn4 hd4
  go_wp2_with fail
  refine HF.out.mono ?_
  rintro e w5 ⟨rfl, hb8⟩
  have k5 := k4.later hb8
  have hb9 := hb7.trans (hb8.mono hb7.size)
  have cR := k5.cell
  have fR := k5.frozen
  have lR := k5.lt
  obtain ⟨qn, hqn⟩ : ∃ q, q = n / n.gcd d := ⟨_, rfl⟩
  obtain ⟨qd, hqd⟩ : ∃ q, q = d / n.gcd d := ⟨_, rfl⟩
  rw [← hqn, ← hqd]
  have HQ1 := Lib.hid hqn
  have HQ2 := Lib.hid hqd
  clear hqn hqd HF k4 hb7 hb8 hd hn2 hd2
  go_wp2_with fail
  refine bodyPost_cell w.heap.size 30 #[.int .i64 (qn : Int), .int .i64 (qd : Int)] (.tuple #[.agg #[.int .i64 (qn : Int), .int .i64 (qd : Int)], .int .i64 0]) ((k5.set_ 0 (.int .i64 (qn : Int))).set_ 1 (.int .i64 (qd : Int))) ?_ ⟨by rw [HQ1.out, HQ2.out], (hb9.setCell (Nat.le_refl _) _).setCell (Nat.le_refl _) _⟩
  intro W' hW'
  simp [results, Tryz.results24, go_sem, hW']
end Go.Proofs.YtpklcjbdmikbdaaGreat
