/-
  The seat's texts Keys MapI GapW CntW StkW EndW in one: the contracts of the functions that the law reaches, and the plain laws that they rest on.
  Conditions: as each theorem states them.
-/
import Derived.Test.YtpklcjbdmikbdaaGreatLayI
import Derived.Test.YtpklcjbdmikbdaaGreatGR
import Derived.Test.YtpklcjbdmikbdaaGreatGP
import Derived.Maps.OwnOps
import Derived.Maps.OwnSet
import Derived.Maps.RangeWalk
import Derived.Outline
namespace Go.Proofs.YtpklcjbdmikbdaaGreat
set_option maxRecDepth 100000
open Go.RowKit Go.Maps Go.Sort Go.Shelf

theorem sortsA (m : Nat) : AnyZI.SortsIn Tryz.prog laySorted_ren Fence.wide m :=
  ⟨fun blk off cap ss W hH hblk hsz => callsIn_wide.2 (Any.slices_Sort_int laySort blk off cap ss W hH hblk hsz),
   fun p cap W => callsIn_wide.2 (Any.slices_Sort_int_none laySort p cap W)⟩
theorem keys_any (mb : Option Nat) (W : World) : Calls Tryz.prog 55 #[.map mb] W fun e w' => e = .returned (.func (.func 78) #[] #[.pointer (some ⟨W.heap.size, 0, none⟩)]) ∧ w' = W.alloc (.cells #[.map mb] 70) := by
  refine (callsIn_wide (n := 5)).1 ?_
  exact AnyZI.keys_in layKeys Fence.wide 5 trivial rfl mb W
set_option maxHeartbeats 1000000 in
theorem sortedKeys_any {H : Type} (b nn : Nat) (D0 : DataW H) (R : Value → Option (DataW H × List MemPlace)) (w : World) (hown : w.ownsMap Tryz.prog 3 R b nn D0) (hmax : Maps.size D0 ≤ maxLen) (hbytes : Maps.size D0 * 8 ≤ 140737488355328) :
    Calls Tryz.prog 54 #[.func (.func 78) #[] #[.pointer (some ⟨w.heap.size, 0, none⟩)]] (w.alloc (.cells #[.map (some b)] 70)) fun e w' => ∃ (v : Value) (ss : List Int), e = .returned v ∧ ss.Perm (intKeys D0) ∧
      w'.ownsRow w.heap.size 3 1 v ss.length ((ss.mergeSort (fun x y => decide (x ≤ y))).map (Value.int .i64)) ∧ Below w.heap.size w w' := by
  refine (callsIn_wide (n := 5)).1 ?_
  have hbl := hown.lt
  have hseq : SeqGives Fence.wide 2 Tryz.prog 78 #[.pointer (some ⟨w.heap.size, 0, none⟩)] encZ (fun ss => ss.Perm (intKeys D0)) (Maps.size D0) (w.alloc (.cells #[.map (some b)] 70)) :=
    AnyZI.keys_gives (ρ := layKeys_ren) { layKeys with } Fence.wide _ trivial rfl (by omega) w.heap.size b nn D0 _ (by simp) (by simp) (by
      obtain ⟨es, clock, hb, Ft, hs, hD⟩ := hown
      exact ⟨es, clock, (Below.heap_alloc _ _ b hbl).trans hb, Ft, hs, hD⟩)
  have cS := AnyZI.sorted_in laySorted Fence.wide 5 trivial trivial trivial trivial rfl (by omega) (sortsA _) (enters_of Tryz.func77 (by kernel_rfl) rfl) 78 #[.pointer (some ⟨w.heap.size, 0, none⟩)] trivial (enters_of Tryz.func78 (by kernel_rfl) rfl) _ _ hmax hbytes _ hseq
  change CallsIn _ _ Tryz.prog 54 _ _ _ at cS
  refine cS.mono ?_
  rintro e w' ⟨v, ss, rfl, hS, hrow, hnil, hb⟩
  exact ⟨v, ss, rfl, hS, ownsRow_base_a hrow (by simp), ((Below.refl _ w).alloc (Nat.le_refl _) _).trans (hb.mono (by simp))⟩
end Go.Proofs.YtpklcjbdmikbdaaGreat
namespace Go.Proofs.YtpklcjbdmikbdaaGreat
set_option maxRecDepth 100000
open Go.RowKit Go.Maps

theorem law3 : Keyed Tryz.prog 3 := int_keyed Tryz.underlying3
def wf (x : Int) : Prop := -9223372036854775808 ≤ x ∧ x ≤ 9223372036854775807
theorem wf_lit {x : Int} (h : wf x) : (Lit.int .i64 x).wf = true := WalkArith.wf_i64 (by unfold wf at h; omega)
/-- Block b is a map that counts the elements of M. -/
structure MapI (w : World) (b n : Nat) (M : List Int) (D : DataW Unit) : Prop where
  own : w.ownsMap Tryz.prog 3 (plainElem Tryz.prog 3) b n D
  at_ : ∀ t, wf t → D.atKey (.int .i64 t) (.lit (.int .i64 0)) = .lit (.int .i64 (M.count t))
  has_ : ∀ t, wf t → has D (.int .i64 t) = decide (t ∈ M)
section
variable {w w' : World} {b n : Nat} {M : List Int} {D : DataW Unit}
theorem MapI.new (w : World) : MapI (w.alloc (.map #[] 0)) w.heap.size 0 [] (.map []) := ⟨World.ownsMap_made _ _ _ _, fun t _ => rfl, fun t _ => by simp [has]⟩
theorem MapI.kept {row : Option Nat} (h : MapI w b n M D) (hg : w.grownBy w' row) (hne : some b ≠ row) : MapI w' b n M D := ⟨h.own.kept hg hne, h.at_, h.has_⟩
theorem MapI.later (h : MapI w b n M D) (hb : Below w.heap.size w w') : MapI w' b n M D := h.kept (only_of_below hb none) (by simp)
theorem MapI.lt (h : MapI w b n M D) : b < w.heap.size := h.own.lt
theorem MapI.put_at (h : MapI w b n M D) {t : Int} (ht : wf t) (c : Nat) (hc : 0 < c) {v : Int} (hv : v = ((M.count t + c : Nat) : Int)) (hown : w'.ownsMap Tryz.prog 3 (plainElem Tryz.prog 3) b (n + 1) (D.put (.int .i64 t) (.lit (.int .i64 v)))) :
    MapI w' b (n + 1) (M ++ List.replicate c t) (D.put (.int .i64 t) (.lit (.int .i64 v))) := by
  have hm := h.own.isMap
  have hk : WideAt.IsKeyLit (.int .i64 t) := trivial
  refine ⟨hown, fun x hx => ?_, fun x hx => ?_⟩
  · by_cases e : x = t
    · subst e
      rw [atKey_put_same hm hk, List.count_append, List.count_replicate_self, hv]
    · rw [atKey_put_other (by simp [e]), h.at_ x hx, List.count_append, List.count_replicate, if_neg (by simp; exact Ne.symm e), Nat.add_zero]
  · by_cases e : x = t
    · subst e
      rw [has_put_same hm hk]
      simp; omega
    · rw [has_put_other (by simp [e]), h.has_ x hx]
      simp [e]
theorem MapI.look (h : MapI w b n M D) {t c : Int} (ht : wf t) (hat : D.atKey (.int .i64 t) (.lit (.int .i64 0)) = .lit (.int .i64 c)) {m : Nat} (hm : m = M.count t) : c = (m : Int) := by
  rw [h.at_ t ht] at hat
  simp at hat
  omega
theorem MapI.keys (h : MapI w b n M D) : (intKeys D).Nodup ∧ (∀ x ∈ intKeys D, wf x) ∧ ∀ x, wf x → (x ∈ intKeys D ↔ x ∈ M) := by
  have hwf := intKeys_wf h.own Tryz.underlying3
  obtain ⟨es, hD, hpw, _⟩ := h.own.entries law3
  obtain ⟨es', hD', hko⟩ := h.own.keysOf
  obtain rfl : es = es' := by rw [hD] at hD'; simpa using hD'
  have hk : ∀ p ∈ es, ∃ x, p.1 = .int .i64 x := fun p hp => by obtain ⟨v, hv⟩ := hko p hp; obtain ⟨x, _, hx, _⟩ := Maps.keyOf_i64 Tryz.underlying3 hv; exact ⟨x, hx⟩
  refine ⟨?_, fun x hx => ?_, fun x hx => ?_⟩
  · rw [hD]
    show (es.map fun p => Go.intOf p.1).Nodup
    refine List.pairwise_map.2 (hpw.imp_of_mem fun {p q} hp' hq' hne e => hne ?_)
    obtain ⟨a, ha⟩ := hk p hp'
    obtain ⟨b, hb⟩ := hk q hq'
    rw [ha, hb] at e ⊢
    exact congrArg _ e
  · have := hwf x hx
    unfold wf
    simp [Lit.wf, IntKind.min, IntKind.max, IntKind.signed, IntKind.bits] at this
    omega
  · have h1 := h.has_ x hx
    rw [hD, has_eq] at h1
    rw [hD]
    show x ∈ es.map (fun p => Go.intOf p.1) ↔ _
    rw [← decide_eq_true_iff (p := x ∈ M), ← h1, List.any_eq_true, List.mem_map]
    constructor
    · rintro ⟨p, hp', rfl⟩
      obtain ⟨a, ha⟩ := hk p hp'
      exact ⟨p, hp', by rw [ha]; simp [Lit.sameKey, Go.intOf]⟩
    · rintro ⟨p, hp', hs⟩
      obtain ⟨a, ha⟩ := hk p hp'
      rw [ha] at hs
      exact ⟨p, hp', by rw [ha]; simpa [Lit.sameKey, Go.intOf] using hs⟩
end
end Go.Proofs.YtpklcjbdmikbdaaGreat
namespace Go.Proofs.YtpklcjbdmikbdaaGreat
set_option maxRecDepth 100000
open Go.RowKit Go.Maps

/-- Three cells are a part. -/
def PartAt (w : World) (g q : Nat) (p : Prt) : Prop := w.cell? ⟨g, q, none⟩ = some (.int .i64 p.lo) ∧ w.cell? ⟨g, q + 1, none⟩ = some (.int .i64 p.hi) ∧ w.cell? ⟨g, q + 2, none⟩ = some (.bool p.neg)
/-- A slice of parts that starts at the head of a block. -/
def PartsH (w : World) (A : Option Addr) (n : Nat) (l : List Prt) : Prop :=
  l.length = n ∧ (0 < n → ∃ g, A = some ⟨g, 0, none⟩ ∧ g < w.heap.size ∧ ∀ (k : Nat) (p : Prt), l[k]? = some p → PartAt w g (k * 3) p)
section
variable {w w' : World} {A : Option Addr} {n : Nat} {l : List Prt}
theorem PartAt.later {g q : Nat} {p : Prt} (h : PartAt w g q p) (hg : g < w.heap.size) (hb : Below w.heap.size w w') : PartAt w' g q p :=
  ⟨(hb.cell (p := ⟨g, q, none⟩) hg).trans h.1, (hb.cell (p := ⟨g, q + 1, none⟩) hg).trans h.2.1, (hb.cell (p := ⟨g, q + 2, none⟩) hg).trans h.2.2⟩
theorem PartsH.later (h : PartsH w A n l) (hb : Below w.heap.size w w') : PartsH w' A n l :=
  ⟨h.1, fun hn => by
    obtain ⟨g, e, hg, hc⟩ := h.2 hn
    exact ⟨g, e, Nat.lt_of_lt_of_le hg hb.size, fun k p hk => (hc k p hk).later hg hb⟩⟩
theorem PartsH.at_ {k : Nat} (h : PartsH w A n l) (hk : k < n) : ∃ g p, A = some ⟨g, 0, none⟩ ∧ g < w.heap.size ∧ l[k]? = some p ∧ PartAt w g (k * 3) p := by
  obtain ⟨g, e, hg, hc⟩ := h.2 (by omega)
  have hl : k < l.length := by have := h.1; omega
  exact ⟨g, l[k], e, hg, List.getElem?_eq_getElem hl, hc k _ (List.getElem?_eq_getElem hl)⟩
end
/-- 'm[k] = v' in a literal. -/
theorem wpList_insert_own {H : Type} {P : Program} (w : World) {ops : Array Oper} {rest : List Oper} {o : Oper} {a : Act} {Q : Exit → Act → World → Prop}
    (hg : o.guard = none) (m x v : Operand) (t : TypeId) (hop : o.op = Op.insert t m x v)
    (k e : TypeId) (K : Keyed P k) (ht : P.underlying t = some (.map k e)) (R : Value → Option (DataW H × List MemPlace)) (b n : Nat) (D : DataW H)
    (hm : a.eval m = .map (some b)) (hown : w.ownsMap P k R b n D) (hn : n < maxLen) (key val : Value) (kl : Lit) (hx : a.eval x = key) (hv : a.eval v = val) (hkey : keyOf P k key = some kl)
    (d : DataW H) (ps : List MemPlace) (hval : R val = some (d, ps))
    (hK : ∀ w', w'.ownsMap P k R b (n + 1) (D.put kl d) → w.grownBy w' (some b) → wpList P ops Q rest (a.put o.dst undef) w') :
    wpList P ops Q (o :: rest) a w := by
  refine wpList_plain hg fun K' hK' => ?_
  obtain ⟨w', hrun, r1, r2⟩ := hown.update K ht hn hkey hval
  unfold Oper.wp
  simp [execOp, hop, hm, hx, hv, hrun, Result.andThen]
  exact hK' _ _ (hK w' r1 r2)
theorem zero3 (w : World) : (zeroValue 3).run Tryz.prog w = .ok (.int .i64 0) w := by kernel_rfl
/-- The keys of the map are the gaps, each once. -/
theorem keysK {M ks : List Int} {D : DataW Unit} {ps : List Prt} (hkeys : (intKeys D).Nodup ∧ (∀ x ∈ intKeys D, wf x) ∧ ∀ x, wf x → (x ∈ intKeys D ↔ x ∈ M)) (hp : ks.Perm (intKeys D)) (hC : ∀ t, M.count t = (gapsL ps).count t) (hok : okPs ps) (hl : ps.length ≤ 8) :
    ks.Nodup ∧ (∀ x ∈ gapsL ps, x ∈ ks) ∧ (∀ g ∈ ks, -8000000 ≤ g ∧ g ≤ 8000000 ∧ 0 < M.count g) ∧ ks.length ≤ 801 := by
  obtain ⟨f1, f2, f3, f4, f5, _⟩ := gapsL_facts ps hok
  have hn : ks.Nodup := hp.nodup_iff.2 hkeys.1
  have hmem : ∀ g ∈ ks, g ∈ gapsL ps ∧ 0 < M.count g := fun g hg => by
    have h1 := hp.mem_iff.1 hg
    have h2 := (hkeys.2.2 g (hkeys.2.1 g h1)).1 h1
    have h3 := List.count_pos_iff.2 h2
    exact ⟨List.count_pos_iff.1 (by rw [← hC]; exact h3), h3⟩
  have hb : ∀ g ∈ gapsL ps, -8000000 ≤ g ∧ g ≤ 8000000 := fun g hg => by have := f1 g hg; omega
  refine ⟨hn, fun x hx => ?_, fun g hg => ⟨(hb g (hmem g hg).1).1, (hb g (hmem g hg).1).2, (hmem g hg).2⟩, ?_⟩
  · have hw : wf x := by have := hb x hx; unfold wf; omega
    refine hp.mem_iff.2 ((hkeys.2.2 x hw).2 (List.count_pos_iff.1 ?_))
    rw [hC]
    exact List.count_pos_iff.2 hx
  · have := nodup_within hn (a := lowL ps) (b := highL ps) (fun x hx => f1 x (hmem x hx).1) (by omega)
    omega
/-- What gaps returns. -/
def GapsR (w : World) (l : List Prt) (e : Ending) (w' : World) : Prop :=
  ∃ (b n : Nat) (M : List Int) (D : DataW Unit), e = .returned (.map (some b)) ∧ MapI w' b n M D ∧ n ≤ 90000 ∧ (∀ t, M.count t = (gapsL l).count t) ∧ w.heap.size ≤ b ∧ Below w.heap.size w w'
set_option maxRecDepth 100000 in
set_option maxHeartbeats 16000000 in
theorem gaps_any (A : Option Addr) (n c : Nat) (l : List Prt) (w : World) (rA : PartsH w A n l) (hok : okPs l) (hn : n ≤ 8) : Calls Tryz.prog 36 #[.slice A n c] w (GapsR w l) := by
  have hmm := @run_makeMap Tryz.prog
  have hm0 := MapI.new w
  have hb0 : Below w.heap.size w (w.alloc (.map #[] 0)) := (Below.refl _ _).alloc (Nat.le_refl _) _
  have HOK := Lib.hid hok
  clear hok
  go_enter Tryz.func36, Tryz.ntmps36
  go_wp2_with (refine wpList_insert_own _ rfl _ _ _ 70 rfl 3 3 law3 Tryz.underlying70 _ w.heap.size 0 _ rfl hm0.own (by unfold maxLen; omega) _ _ _ rfl rfl (keyOf_int_mk Tryz.underlying3 (wf_lit (x := 0) (by unfold wf; omega))) _ [] (plainElem_int Tryz.underlying3 (wf_lit (x := 1) (by unfold wf; omega))) ?_; intro w1 hown1 hgrow1)
  obtain ⟨D1, hm1⟩ : ∃ D1, MapI w1 w.heap.size 1 [0] D1 := ⟨_, hm0.put_at (w' := w1) (t := 0) (by unfold wf; omega) 1 (by omega) (v := 1) (by simp) (by simpa using hown1)⟩
  have hb1 : Below w.heap.size w w1 := hb0.grown hgrow1 (by simp) (fun p hp => by cases hp; exact Nat.le_refl _)
  clear hown1 hgrow1 hm0 hb0
  have HN : Hid (w.heap.size = w.heap.size) := rfl
  generalize hNe : w.heap.size = N at *
  have HNe := Lib.hid hNe
  have HA : Hid (∀ wr, Below N w wr → PartsH wr A n l) := fun wr hb => rA.later (by rw [hNe]; exact hb)
  have HAn := Lib.hid rA.1
  clear hNe HN rA
  go_loopw [15, 3] (fun i m wr => ∃ (k b q : Nat) (M : List Int) (D : DataW Unit), k ≤ n ∧ i = .int .i64 k ∧ m = .map (some b) ∧ MapI wr b q M D ∧ q ≤ 90000 ∧ Hid (∀ t, M.count t = (gapsL (l.take k)).count t) ∧ N ≤ b ∧ Below N w wr) (fun i _ _ => n - (RowKit.intOf i).toNat)
  case atStart => exact ⟨0, N, 1, [0], D1, Nat.zero_le _, rfl, rfl, hm1, by omega, fun t => rfl, Nat.le_refl _, hb1⟩
  case round =>
    clear hm1 hb1
    obtain ⟨k, b, q, M, D, hk, rfl, rfl, hM, hq, hC, hNb, hb⟩ := hrel
    by_cases hlt : k < n
    · obtain ⟨g, p, rfl, hg, hlk, hp1, hp2, hp3⟩ := (HA.out wr hb).at_ hlt
      have hkn : (k : Int) < (n : Int) := by omega
      have hpok := HOK.out p (List.mem_of_getElem? hlk)
      have HLK := Lib.hid hlk
      clear hlk
      go_upto_region 6 with fail
      have hszb := hb.size
      have hsz : (wr.alloc (.cells #[.int .i64 p.lo, .int .i64 p.hi, .bool p.neg] 50)).heap.size = wr.heap.size + 1 := by simp
      have hb2 : Below wr.heap.size wr (wr.alloc (.cells #[.int .i64 p.lo, .int .i64 p.hi, .bool p.neg] 50)) := (Below.refl _ _).alloc (Nat.le_refl _) _
      have hb3 : Below (wr.alloc (.cells #[.int .i64 p.lo, .int .i64 p.hi, .bool p.neg] 50)).heap.size (wr.alloc (.cells #[.int .i64 p.lo, .int .i64 p.hi, .bool p.neg] 50)) ((wr.alloc (.cells #[.int .i64 p.lo, .int .i64 p.hi, .bool p.neg] 50)).alloc (.map #[] 0)) := (Below.refl _ _).alloc (Nat.le_refl _) _
      have hP6 := (Blk.new wr 50 #[.int .i64 p.lo, .int .i64 p.hi, .bool p.neg]).later hb3
      have hX6 := MapI.new (wr.alloc (.cells #[.int .i64 p.lo, .int .i64 p.hi, .bool p.neg] 50))
      rw [hsz] at hX6
      have hb4 := hb2.trans (hb3.mono (by rw [hsz]; exact Nat.le_succ _))
      have hM6 := hM.later hb4
      have hbP := hM.lt
      have hb6 := hb.trans (hb4.mono (by rw [HNe.out] at hszb; exact hszb))
      rw [HNe.out] at hszb
      have hs6 := hX6.lt
      clear hsz hb2 hb3 hb4 hM hb hp1 hp2 hp3 hmm
      revert hP6 hX6 hM6 hbP hb6 hszb hs6
      generalize (wr.alloc (.cells #[.int .i64 p.lo, .int .i64 p.hi, .bool p.neg] 50)).alloc (.map #[] 0) = w6
      generalize wr.heap.size = Pb
      intro hszb hP6 hX6 hM6 hbP hb6 hs6
      have hsl := hM6.own.size_le
      go_wp2_with fail
      refine (keys_any (some b) w6).mono ?_
      rintro e w7 ⟨rfl, rfl⟩
      go_wp2_with fail
      refine (sortedKeys_any b q D _ w6 hM6.own (by unfold maxLen; omega) (by omega)).mono ?_
      rintro e w7 ⟨v, ss, rfl, hS, hrow, hb7⟩
      obtain ⟨C, cc, rfl⟩ := own_slice hrow
      obtain ⟨ks, hks⟩ : ∃ ks, ks = ss.mergeSort (fun x y => decide (x ≤ y)) := ⟨_, rfl⟩
      rw [← hks] at hrow
      have hperm : ks.Perm ss := by rw [hks]; exact List.mergeSort_perm _ _
      have hlen := hperm.length_eq
      rw [← hlen] at hrow ⊢
      obtain ⟨K1, K2, K3, K4⟩ := keysK hM6.keys (hperm.trans hS) hC.out (okPs_take HOK.out k) (by rw [List.length_take]; omega)
      have HK1 := Lib.hid K1
      have HK2 := Lib.hid K2
      have HK3 := Lib.hid K3
      have HSg : Hid (∀ t, (gapsL (l.take k)).count t = M.count t) := fun t => (hC.out t).symm
      have hC1 := own_rowH hrow
      have hrl := hrow.lt
      have hb8 := hb6.trans (hb7.mono (by omega))
      have hP7 := hP6.later hb7
      have hX7 := hX6.later hb7
      have hM7 := hM6.later hb7
      have hCX : ∀ g', C = some ⟨g', 0, none⟩ → g' ≠ Pb + 1 := fun g' e => by
        have := (hrl g' (by rw [e]; rfl)).1
        omega
      have HCX := Lib.hid hCX
      have HO := Lib.hid (show okP p from hpok)
      have hwd := okP_wd hpok
      obtain ⟨S, hSe⟩ : ∃ S, S = gapsL (l.take k) := ⟨_, rfl⟩
      have HSe := Lib.hid hSe
      have hspr : Hid (spread S p = gapsL (l.take (k + 1))) := by
        show _ = _
        rw [hSe, List.take_add_one, HLK.out]
        exact (gapsL_snoc _ _).symm
      rw [← hSe] at HSg HK2
      clear hks hperm hlen hS K1 K2 K3 hrow hrl hSe hb6 hb7 hP6 hX6 hM6 hC hsl hCX
      go_wp2_with fail
      go_loopw [24] (fun i wr => ∃ (j nn : Nat) (D2 : DataW Unit), j ≤ ks.length ∧ nn ≤ j * 101 ∧ i = .int .i64 j ∧ MapI wr (Pb + 1) nn (filled2 S p (ks.take j)) D2 ∧ w7.grownBy wr (some (Pb + 1))) (fun i _ => ks.length - (RowKit.intOf i).toNat)
      case atStart => exact ⟨0, 0, _, Nat.zero_le _, by omega, rfl, hX7, World.grownBy.refl _ _⟩
      case round =>
        clear hX7
        obtain ⟨j, nn, D2, hj, hnn, rfl, hX, hgr⟩ := hrel
        by_cases hjk : j < ks.length
        · obtain ⟨gc, rfl, hgc, hcell⟩ := (hC1.grown hgr HCX.out).at_ hjk
          have hjj : (j : Int) < (ks.length : Int) := by omega
          have hkj : ks[j]? = some (ks.getD j 0) := by rw [List.getD_eq_getElem?_getD, List.getElem?_eq_getElem hjk]; rfl
          have hk3 := HK3.out _ (List.mem_of_getElem? hkj)
          generalize ks.getD j 0 = gap at hkj hk3 hcell
          have HKJ := Lib.hid hkj
          obtain ⟨g1, g2, g3⟩ := hk3
          clear hkj
          go_upto_region 9 with fail
          have hP8 := hP7.grown hgr (by simp)
          have hcP := hP8.cell
          have hlP := hP8.lt
          have hpo := HO.out
          unfold okP at hpo
          obtain ⟨o1, o2, o3, o4⟩ := hpo
          have hwdi : (p.wd : Int) = p.hi - p.lo + 1 := by unfold Prt.wd; omega
          have HWD := Lib.hid hwdi
          clear hwdi
          go_wp2_with fail
          go_loopw [9] (fun v wr => ∃ (x nn : Nat) (D2 : DataW Unit), x ≤ p.wd ∧ nn ≤ j * 101 + x ∧ v = .int .i64 (p.lo + (x : Int)) ∧ MapI wr (Pb + 1) nn (filled2 S p (ks.take j) ++ fill1 S p gap x) D2 ∧ w7.grownBy wr (some (Pb + 1))) (fun v _ => (p.hi + 1 - RowKit.intOf v).toNat)
          case atStart => exact ⟨0, nn, D2, Nat.zero_le _, by omega, by simp, by rw [fill1_zero, List.append_nil]; exact hX, hgr⟩
          case round =>
            clear hX hgr hcP hlP hP8 hnn
            obtain ⟨x, nn, D2, hx, hnn, rfl, hX, hgr⟩ := hrel
            have hP8 := hP7.grown hgr (by simp)
            have hcP := hP8.cell
            have hlP := hP8.lt
            have hw1 := HWD.out
            by_cases hxw : x < p.wd
            · have hlo : p.lo + (x : Int) ≤ p.hi := by omega
              have hxb : (x : Int) ≤ 100 := by omega
              have hM8 := hM7.kept hgr (by simp; omega)
              cases hng : p.neg
              · have HT : Hid ((gap + (p.lo + (x : Int))) = gap + p.off x) := by show _ = _; unfold Prt.off; rw [hng]; simp <;> omega
                obtain ⟨t, ht⟩ : ∃ t, t = (gap + (p.lo + (x : Int))) := ⟨_, rfl⟩
                have hwt : wf t := by unfold wf; omega
                have hwg : wf gap := by unfold wf; omega
                obtain ⟨c1, hc1⟩ : ∃ c1, c1 = (filled2 S p (ks.take j) ++ fill1 S p gap x).count t := ⟨_, rfl⟩
                obtain ⟨c2, hc2⟩ : ∃ c2, c2 = M.count gap := ⟨_, rfl⟩
                have hF : filled2 S p (ks.take j) ++ fill1 S p gap (x + 1) = (filled2 S p (ks.take j) ++ fill1 S p gap x) ++ List.replicate c2 t := by
                  rw [fill1_succ, ← List.append_assoc, HSg.out, ← hc2, ht, HT.out]
                have hle := fill_le (S := S) (p := p) HKJ.out (show x + 1 ≤ p.wd by omega) t
                rw [hF, List.count_append, List.count_replicate_self, ← hc1] at hle
                have hbd : c1 + c2 ≤ 10828567056280801 := by
                  have h1 := filled2_count (p := p) HK1.out HK2.out t
                  have h2 : (spread S p).count t ≤ (spread S p).length := List.count_le_length
                  have h3 := choices_bound (okPs_take HOK.out (k + 1)) (by rw [List.length_take]; omega)
                  rw [← hspr.out] at h3
                  omega
                have hc20 : 0 < c2 := by rw [hc2]; exact g3
                have HF := Lib.hid hF
                have HC1 := Lib.hid hc1
                have HC2 := Lib.hid hc2
                have hbi : (c1 : Int) + (c2 : Int) ≤ 10828567056280801 := by omega
                have hkt : keyOf Tryz.prog 3 (.int .i64 t) = some (.int .i64 t) := keyOf_int_mk Tryz.underlying3 (wf_lit hwt)
                have hkg : keyOf Tryz.prog 3 (.int .i64 gap) = some (.int .i64 gap) := keyOf_int_mk Tryz.underlying3 (wf_lit hwg)
                have hpe : plainElem (H := Unit) Tryz.prog 3 (.int .i64 ((c1 : Int) + (c2 : Int))) = some (.lit (.int .i64 ((c1 : Int) + (c2 : Int))), []) := plainElem_int Tryz.underlying3 (wf_lit (by unfold wf; omega))
                have HTt := Lib.hid ht
                have HKt := Lib.hid hkt
                have HKg := Lib.hid hkg
                have HPe := Lib.hid hpe
                clear hF hle hc1 hc2 hkt hkg hpe
                clear ht
                go_upto_region 15 with fail
                rw [← HTt.out]
                go_wp2_with (first
                  | (at_lookup; refine wpList_lookup_own_int _ rfl (.tmp 46) (.tmp 47) 70 rfl 3 3 .i64 law3 Tryz.underlying70 Tryz.underlying3 (zero3 _) (Pb + 1) nn _ rfl hX.own _ _ rfl HKt.out ?_; intro z hat hwz; obtain rfl := hX.look hwt hat HC1.out; clear hat hwz)
                  | (at_lookup; refine wpList_lookup_own_int _ rfl (.tmp 49) (.tmp 50) 70 rfl 3 3 .i64 law3 Tryz.underlying70 Tryz.underlying3 (zero3 _) b q _ rfl hM8.own _ _ rfl HKg.out ?_; intro z hat hwz; obtain rfl := hM8.look hwg hat HC2.out; clear hat hwz)
                  | (at_mapUpdate; refine wpList_mapUpdate_own _ rfl _ _ _ 70 rfl 3 3 law3 Tryz.underlying70 _ (Pb + 1) nn _ rfl hX.own (by unfold maxLen; omega) _ _ _ rfl rfl HKt.out _ [] HPe.out ?_; intro w8 hown8 hgr8))
                have hX8 := hX.put_at hwt c2 hc20 (by rw [← HC1.out]; omega) hown8
                rw [← HF.out] at hX8
                have hgr9 := hgr.trans hgr8
                clear hown8 hgr8 hX hgr
                go_wp2_with fail
                go_roundw
                case rel => exact ⟨x + 1, nn + 1, _, by omega, by omega, congrArg (Value.int .i64) (by omega), hX8, hgr9⟩
                case measure => simp [RowKit.intOf]; omega
              · have HT : Hid ((gap - (p.lo + (x : Int))) = gap + p.off x) := by show _ = _; unfold Prt.off; rw [hng]; simp <;> omega
                obtain ⟨t, ht⟩ : ∃ t, t = (gap - (p.lo + (x : Int))) := ⟨_, rfl⟩
                have hwt : wf t := by unfold wf; omega
                have hwg : wf gap := by unfold wf; omega
                obtain ⟨c1, hc1⟩ : ∃ c1, c1 = (filled2 S p (ks.take j) ++ fill1 S p gap x).count t := ⟨_, rfl⟩
                obtain ⟨c2, hc2⟩ : ∃ c2, c2 = M.count gap := ⟨_, rfl⟩
                have hF : filled2 S p (ks.take j) ++ fill1 S p gap (x + 1) = (filled2 S p (ks.take j) ++ fill1 S p gap x) ++ List.replicate c2 t := by
                  rw [fill1_succ, ← List.append_assoc, HSg.out, ← hc2, ht, HT.out]
                have hle := fill_le (S := S) (p := p) HKJ.out (show x + 1 ≤ p.wd by omega) t
                rw [hF, List.count_append, List.count_replicate_self, ← hc1] at hle
                have hbd : c1 + c2 ≤ 10828567056280801 := by
                  have h1 := filled2_count (p := p) HK1.out HK2.out t
                  have h2 : (spread S p).count t ≤ (spread S p).length := List.count_le_length
                  have h3 := choices_bound (okPs_take HOK.out (k + 1)) (by rw [List.length_take]; omega)
                  rw [← hspr.out] at h3
                  omega
                have hc20 : 0 < c2 := by rw [hc2]; exact g3
                have HF := Lib.hid hF
                have HC1 := Lib.hid hc1
                have HC2 := Lib.hid hc2
                have hbi : (c1 : Int) + (c2 : Int) ≤ 10828567056280801 := by omega
                have hkt : keyOf Tryz.prog 3 (.int .i64 t) = some (.int .i64 t) := keyOf_int_mk Tryz.underlying3 (wf_lit hwt)
                have hkg : keyOf Tryz.prog 3 (.int .i64 gap) = some (.int .i64 gap) := keyOf_int_mk Tryz.underlying3 (wf_lit hwg)
                have hpe : plainElem (H := Unit) Tryz.prog 3 (.int .i64 ((c1 : Int) + (c2 : Int))) = some (.lit (.int .i64 ((c1 : Int) + (c2 : Int))), []) := plainElem_int Tryz.underlying3 (wf_lit (by unfold wf; omega))
                have HTt := Lib.hid ht
                have HKt := Lib.hid hkt
                have HKg := Lib.hid hkg
                have HPe := Lib.hid hpe
                clear hF hle hc1 hc2 hkt hkg hpe
                clear ht
                go_upto_region 15 with fail
                rw [← HTt.out]
                go_wp2_with (first
                  | (at_lookup; refine wpList_lookup_own_int _ rfl (.tmp 46) (.tmp 47) 70 rfl 3 3 .i64 law3 Tryz.underlying70 Tryz.underlying3 (zero3 _) (Pb + 1) nn _ rfl hX.own _ _ rfl HKt.out ?_; intro z hat hwz; obtain rfl := hX.look hwt hat HC1.out; clear hat hwz)
                  | (at_lookup; refine wpList_lookup_own_int _ rfl (.tmp 49) (.tmp 50) 70 rfl 3 3 .i64 law3 Tryz.underlying70 Tryz.underlying3 (zero3 _) b q _ rfl hM8.own _ _ rfl HKg.out ?_; intro z hat hwz; obtain rfl := hM8.look hwg hat HC2.out; clear hat hwz)
                  | (at_mapUpdate; refine wpList_mapUpdate_own _ rfl _ _ _ 70 rfl 3 3 law3 Tryz.underlying70 _ (Pb + 1) nn _ rfl hX.own (by unfold maxLen; omega) _ _ _ rfl rfl HKt.out _ [] HPe.out ?_; intro w8 hown8 hgr8))
                have hX8 := hX.put_at hwt c2 hc20 (by rw [← HC1.out]; omega) hown8
                rw [← HF.out] at hX8
                have hgr9 := hgr.trans hgr8
                clear hown8 hgr8 hX hgr
                go_wp2_with fail
                go_roundw
                case rel => exact ⟨x + 1, nn + 1, _, by omega, by omega, congrArg (Value.int .i64) (by omega), hX8, hgr9⟩
                case measure => simp [RowKit.intOf]; omega
            · obtain rfl : x = p.wd := by omega
              have hlo : ¬ (p.lo + (p.wd : Int) ≤ p.hi) := by omega
              have hX9 : MapI wr (Pb + 1) nn (filled2 S p (ks.take (j + 1))) D2 := by
                rw [List.take_add_one, HKJ.out]
                show MapI wr (Pb + 1) nn (filled2 S p (ks.take j ++ [gap])) D2
                rw [filled2_step]
                exact hX
              clear hX
              go_wp2_with fail
              go_roundw
              case rel => exact ⟨j + 1, nn, D2, by omega, by omega, by go_num, hX9, hgr⟩
              case measure => simp [RowKit.intOf]; omega
        · obtain rfl : j = ks.length := by omega
          have HC2 : Hid (∀ t, (filled2 S p ks).count t = (gapsL (l.take (k + 1))).count t) := fun t => by
            rw [← hspr.out]
            exact filled2_count HK1.out HK2.out t
          rw [List.take_length] at hX
          have hb9 := hb8.grown hgr (by have h1 := hb8.size; rw [HNe.out] at h1; exact h1) (fun i hi => by cases hi; omega)
          clear hgr hC1 hb8
          go_wp2_with fail
          go_roundw
          case rel => exact ⟨k + 1, Pb + 1, nn, filled2 S p ks, D2, by omega, by go_num, rfl, hX, by omega, HC2, by omega, hb9⟩
          case measure => simp [RowKit.intOf]; omega
    · obtain rfl : k = n := by omega
      have HT : Hid (l.take k = l) := by show _ = _; rw [← HAn.out, List.take_length]
      have HF : Hid (∀ t, M.count t = (gapsL l).count t) := by rw [← HT.out]; exact hC
      clear hC
      go_wp2_with fail
      go_ret
      exact ⟨b, q, M, D, rfl, hM, hq, HF.out, by rw [HNe.out]; exact hNb, by rw [HNe.out]; exact hb⟩
end Go.Proofs.YtpklcjbdmikbdaaGreat
namespace Go.Proofs.YtpklcjbdmikbdaaGreat
set_option maxRecDepth 100000
open Go.RowKit Go.Maps

theorem sum_keys2 {ks : List Int} (hn : ks.Nodup) (h : Int → Nat) (S : List Int) : (ks.map fun g => S.count g * h g).sum = (S.map fun x => if x ∈ ks then h x else 0).sum := by
  induction S with
  | nil => simp only [List.count_nil, Nat.zero_mul, List.map_nil, List.sum_nil]; rw [sum_const]; simp
  | cons a S ih =>
    have e : (ks.map fun g => (a :: S).count g * h g) = ks.map fun g => S.count g * h g + (if a = g then 1 else 0) * h g := by
      refine List.map_congr_left fun g _ => ?_
      rw [List.count_cons, Nat.add_mul]
      simp
    rw [e, sum_add, ih, sum_pick hn, List.map_cons, List.sum_cons]
    omega
theorem sum_mono {α : Type} (l : List α) (f g : α → Nat) (h : ∀ a ∈ l, f a ≤ g a) : (l.map f).sum ≤ (l.map g).sum := by
  induction l with
  | nil => simp
  | cons a l ih =>
    have := h a (by simp)
    have := ih fun b hb => h b (by simp [hb])
    simp
    omega
theorem sum_le {ks : List Int} (hn : ks.Nodup) (h : Int → Nat) (S : List Int) : (ks.map fun g => S.count g * h g).sum ≤ (S.map h).sum := by
  rw [sum_keys2 hn]
  exact sum_mono _ _ _ fun a _ => by split <;> omega
/-- Is a gap in need? -/
def inN (lo hi g : Int) : Nat := if lo ≤ g ∧ g ≤ hi then 1 else 0
/-- How many of the gaps are in need. -/
def goodN (lo hi : Int) (S : List Int) : Nat := (S.map (inN lo hi)).sum
theorem goodN_le (lo hi : Int) (S : List Int) : goodN lo hi S ≤ S.length := by
  unfold goodN
  have := sum_mono S (inN lo hi) (fun _ => 1) fun a _ => by unfold inN; split <;> omega
  rw [sum_const] at this
  omega
theorem all_len (S : List Int) : (S.map fun _ => 1).sum = S.length := by rw [sum_const]; omega
/-- Sums by keys. -/
def byKeys (S : List Int) (h : Int → Nat) (ds : List Int) : Nat := (ds.map fun g => S.count g * h g).sum
theorem byKeys_snoc (S : List Int) (h : Int → Nat) (ds : List Int) (x : Int) : byKeys S h (ds ++ [x]) = byKeys S h ds + S.count x * h x := by simp [byKeys]
/-- What counted returns. -/
def CountedR (w : World) (l : List Prt) (lo hi : Int) (e : Ending) (w' : World) : Prop :=
  e = .returned (.tuple #[.int .i64 ((goodN lo hi (gapsL l) : Nat) : Int), .int .i64 (((gapsL l).length : Nat) : Int)]) ∧ Below w.heap.size w w'
set_option maxRecDepth 100000 in
set_option maxHeartbeats 16000000 in
theorem counted_any (A : Option Addr) (n c : Nat) (l : List Prt) (lo hi : Int) (w : World) (rA : PartsH w A n l) (hok : okPs l) (hn : n ≤ 8) : Calls Tryz.prog 23 #[.slice A n c, .agg #[.int .i64 lo, .int .i64 hi]] w (CountedR w l lo hi) := by
  have hb0 : Below w.heap.size w (w.alloc (.cells #[.int .i64 lo, .int .i64 hi] 24)) := (Below.refl _ _).alloc (Nat.le_refl _) _
  have k0 := Blk.new w 24 #[.int .i64 lo, .int .i64 hi]
  have HG := Lib.hid (gaps_any A n c l _ (rA.later hb0) hok hn)
  have HL := Lib.hid (choices_bound hok (by rw [rA.1]; exact hn))
  have HOK := Lib.hid hok
  have HLn : Hid (l.length ≤ 8) := by rw [rA.1]; exact hn
  clear rA hok
  go_enter Tryz.func23, Tryz.ntmps23
  go_wp2_with fail
  refine HG.out.mono ?_
  rintro e w1 ⟨b, q, M, D, rfl, hM, hq, hC, hNb, hb1⟩
  have k1 := k0.later hb1
  have hb2 := hb0.trans (hb1.mono hb0.size)
  have hown := hM.own
  have hlb := hM.lt
  have hbN : w.heap.size < b := by simp at hNb; omega
  obtain ⟨S, hS⟩ : ∃ S, S = gapsL l := ⟨_, rfl⟩
  have HS := Lib.hid hS
  have HC : Hid (∀ t, M.count t = S.count t) := by rw [hS]; exact hC
  have HLS : Hid (S.length ≤ 10828567056280801) := by rw [hS]; exact HL.out
  have hSb : ∀ x ∈ S, wf x := fun x hx => by
    rw [hS] at hx
    obtain ⟨f1, f2, _, f4, _⟩ := gapsL_facts l HOK.out
    have := f1 x hx
    have := HLn.out
    unfold wf; omega
  have HHas : Hid (∀ x ∈ S, has D (.int .i64 x) = true) := fun x hx => by
    rw [hM.has_ x (hSb x hx)]
    have h1 := List.count_pos_iff.2 hx
    rw [← HC.out] at h1
    simpa using List.count_pos_iff.1 h1
  have HAt : Hid (∀ x c : Int, wf x → D.atKey (.int .i64 x) (.lit (.int .i64 0)) = .lit (.int .i64 c) → c = ((S.count x : Nat) : Int)) := fun x c hx hat => hM.look hx hat (HC.out x).symm
  clear HG hb0 k0 hb1 hS hC HL hNb hSb
  go_wp2_with (first | (at_range; refine wpList_range_own _ rfl _ 70 rfl 3 3 law3 Tryz.underlying70 _ b q D rfl hown ?_; intro w2 hrg hg0 hs0))
  go_frame
  have k2 := k1.grown hg0 (by simp)
  have hb3 := hb2.trans (below_of_only (hg0.but (some w1.heap.size)) (Nat.le_refl _) (Nat.le_refl _) |>.mono hb2.size)
  have hN1 : w.heap.size < w1.heap.size := by omega
  have hC0 := CollectedI.start D
  clear hM hown hb2 hg0 hs0 k1
  revert hrg k2 hb3 hN1 hlb
  generalize w1.heap.size = r
  generalize hNe : w.heap.size = N
  intro hlb hrg k2 hb3 hN1
  have HNe := Lib.hid hNe
  clear hNe
  go_loopw [4, 5] (fun x y wr => ∃ (left : Lit → Bool) (cnt : Nat) (ds : List Int), x = .int .i64 ((byKeys S (inN lo hi) ds : Nat) : Int) ∧ y = .int .i64 ((byKeys S (fun _ => 1) ds : Nat) : Int) ∧ wr.ranges Tryz.prog 3 (plainElem Tryz.prog 3) b r q D left cnt ∧ Hid (CollectedI D left ds) ∧ w2.grownBy wr (some r)) (fun _ _ wr => wr.rangeLeft b r)
  case atStart => exact ⟨_, _, [], rfl, rfl, hrg, hC0, World.grownBy.refl _ _⟩
  case round =>
    clear hrg hC0
    obtain ⟨left, cnt, ds, rfl, rfl, hrg, hCo, hgr⟩ := hrel
    have B1 := sum_le hCo.out.1 (inN lo hi) S
    have B2 := sum_le hCo.out.1 (fun _ => 1) S
    have B3 := goodN_le lo hi S
    rw [all_len] at B2
    have hle := hrg.left_eq
    go_wp2_with (first | (at_next; refine wpList_next_ranges_ii _ rfl _ rfl 3 3 .i64 .i64 law3 Tryz.underlying3 Tryz.underlying3 b r q _ _ _ rfl hrg ?_ ?_))
    · intro hc0 hl0
      have hmem : ∀ x ∈ S, x ∈ ds := fun x hx => (hCo.out.2 x).2 ⟨HHas.out x hx, hl0 _⟩
      have HE1 : Hid (byKeys S (inN lo hi) ds = goodN lo hi (gapsL l)) := by show _ = _; rw [← HS.out]; exact sum_keys hCo.out.1 _ S hmem
      have HE2 : Hid (byKeys S (fun _ => 1) ds = (gapsL l).length) := by show _ = _; rw [← HS.out, ← all_len S]; exact sum_keys hCo.out.1 _ S hmem
      clear hmem hle
      rw [HE1.out, HE2.out]
      go_wp2_with fail
      go_ret2
      exact ⟨rfl, by rw [HNe.out]; exact hb3.trans (below_of_only hgr (by omega) (by have h1 := hb3.size; rw [HNe.out] at h1; exact h1))⟩
    · intro x c w3 cnt1 hwx hwc hlx hat hrg1 hlt hg1 hs1 hen
      have hwx' : wf x := by
        simp [Lit.wf, IntKind.min, IntKind.max, IntKind.signed, IntKind.bits] at hwx
        unfold wf; omega
      have hc := HAt.out x c hwx' (hat _)
      obtain ⟨m, hm⟩ : ∃ m, m = S.count x := ⟨_, rfl⟩
      rw [← hm] at hc
      subst hc
      have HCo2 := Lib.hid (hCo.out.step hlx hat)
      have B4 := sum_le HCo2.out.1 (inN lo hi) S
      have B5 := sum_le HCo2.out.1 (fun _ => 1) S
      rw [all_len] at B5
      have e1 := byKeys_snoc S (inN lo hi) ds x
      have e2 := byKeys_snoc S (fun _ => 1) ds x
      rw [← hm] at e1 e2
      have HG1 := Lib.hid e1
      have HA1 : Hid (byKeys S (fun _ => 1) (ds ++ [x]) = byKeys S (fun _ => 1) ds + m) := by show _ = _; omega
      have hB6 : byKeys S (fun _ => 1) ds + m ≤ 10828567056280801 := by have := HLS.out; rw [← HA1.out]; exact Nat.le_trans B5 this
      have hB7 : byKeys S (inN lo hi) ds ≤ 10828567056280801 := Nat.le_trans B1 (Nat.le_trans B3 HLS.out)
      have hgr4 := hgr.trans hg1
      have cB := (k2.grown hgr4 (by simp; omega)).cell
      have lB := (k2.grown hgr4 (by simp; omega)).lt
      clear hm e1 e2 B1 B2 B3 B4 B5 hwx hwc hat hlx hg1 hCo hgr hrg
      generalize byKeys S (inN lo hi) ds = bg at *
      generalize byKeys S (fun _ => 1) ds = ba at *
      by_cases hin : lo ≤ x ∧ x ≤ hi
      · have hB8 : bg + m ≤ 21657134112561602 := by omega
        have HM : Hid (∀ w, Calls Tryz.prog 37 #[.int .i64 x, .agg #[.int .i64 lo, .int .i64 hi]] w fun e w' => e = .returned (.bool true) ∧ Below w.heap.size w w') := by
          intro w
          have := inS_any x lo hi w
          rw [show (decide (lo ≤ x) && decide (x ≤ hi)) = true by simpa using hin] at this
          exact this
        have hI : inN lo hi x = 1 := by unfold inN; simp [hin]
        rw [hI] at HG1
        clear hin hI
        go_wp2_with fail
        refine (HM.out _).mono ?_
        rintro e w4 ⟨rfl, hb4⟩
        have hrg2 := hrg1.kept (only_of_below hb4 none) (by simp) (by simp)
        have hgr5 := only_trans_below hgr4 hb4
        have hl4 := hrg2.left_eq
        clear hgr4 hb4 hrg1 cB lB
        go_wp2_with fail
        go_roundw
        case rel => exact ⟨_, _, ds ++ [x], congrArg (Value.int .i64) (by have := HG1.out; omega), congrArg (Value.int .i64) (by have := HA1.out; omega), hrg2, HCo2.out, hgr5⟩
        case measure => rw [hl4, hle]; omega
      · have hB8 : bg + m ≤ 21657134112561602 := by omega
        have HM : Hid (∀ w, Calls Tryz.prog 37 #[.int .i64 x, .agg #[.int .i64 lo, .int .i64 hi]] w fun e w' => e = .returned (.bool false) ∧ Below w.heap.size w w') := by
          intro w
          have := inS_any x lo hi w
          rw [show (decide (lo ≤ x) && decide (x ≤ hi)) = false by simpa using hin] at this
          exact this
        have hI : inN lo hi x = 0 := by unfold inN; simp [hin]
        rw [hI] at HG1
        clear hin hI
        go_wp2_with fail
        refine (HM.out _).mono ?_
        rintro e w4 ⟨rfl, hb4⟩
        have hrg2 := hrg1.kept (only_of_below hb4 none) (by simp) (by simp)
        have hgr5 := only_trans_below hgr4 hb4
        have hl4 := hrg2.left_eq
        clear hgr4 hb4 hrg1 cB lB
        go_wp2_with fail
        go_roundw
        case rel => exact ⟨_, _, ds ++ [x], congrArg (Value.int .i64) (by have := HG1.out; omega), congrArg (Value.int .i64) (by have := HA1.out; omega), hrg2, HCo2.out, hgr5⟩
        case measure => rw [hl4, hle]; omega
end Go.Proofs.YtpklcjbdmikbdaaGreat
namespace Go.Proofs.YtpklcjbdmikbdaaGreat
set_option maxRecDepth 100000
open Go.RowKit

theorem spanB_iff {lo hi : Int} : spanB lo hi = true ↔ -1000000 ≤ lo ∧ lo ≤ hi ∧ hi ≤ 1000000 := by
  unfold spanB inB
  simp only [Bool.and_eq_true, decide_eq_true_eq]
  omega
/-- A valid part, as a Boolean. -/
def okB (p : Prt) : Bool := spanB p.lo p.hi && decide (p.hi - p.lo ≤ 100)
theorem okB_iff {p : Prt} : okB p = true ↔ okP p := by
  unfold okB okP
  rw [Bool.and_eq_true, spanB_iff, decide_eq_true_eq]
  omega
/-- Parts are a stack. -/
def rightB (l : List Prt) : Bool := l.all okB && (decide (1 ≤ l.length) && decide (l.length ≤ 8))
theorem rightB_iff {l : List Prt} : rightB l = true ↔ okPs l ∧ 1 ≤ l.length ∧ l.length ≤ 8 := by
  unfold rightB okPs
  simp only [Bool.and_eq_true, decide_eq_true_eq, List.all_eq_true, okB_iff]
theorem right_not {l : List Prt} {k : Nat} {p : Prt} (hk : l[k]? = some p) (h : okB p = false) : rightB l = false := by
  unfold rightB
  have : l.all okB = false := by rw [List.all_eq_false]; exact ⟨p, List.mem_of_getElem? hk, by simp [h]⟩
  rw [this]; rfl
theorem all_snoc {l : List Prt} {k : Nat} {p : Prt} (hk : l[k]? = some p) (h : (l.take k).all okB = true) (hp : okB p = true) : (l.take (k + 1)).all okB = true := by
  rw [List.take_add_one, hk, List.all_append, h]
  simp [hp]
set_option maxRecDepth 100000 in
set_option maxHeartbeats 8000000 in
theorem right_any (A : Option Addr) (n c : Nat) (l : List Prt) (w : World) (rA : PartsH w A n l) (hn : n ≤ 1000) : Calls Tryz.prog 21 #[.slice A n c] w fun e w' => e = .returned (.bool (rightB l)) ∧ Below w.heap.size w w' := by
  have HAn := Lib.hid rA.1
  go_enter Tryz.func21, Tryz.ntmps21
  go_wp2_with fail
  go_loopw [7] (fun i wr => ∃ k : Nat, k ≤ n ∧ i = .int .i64 k ∧ Hid ((l.take k).all okB = true) ∧ Below w.heap.size w wr) (fun i _ => n - (RowKit.intOf i).toNat)
  case atStart => exact ⟨0, Nat.zero_le _, rfl, rfl, Below.refl _ _⟩
  case round =>
    obtain ⟨k, hk, rfl, hS, hb⟩ := hrel
    by_cases hlt : k < n
    · obtain ⟨g, p, rfl, hg, hlk, hp1, hp2, hp3⟩ := (rA.later hb).at_ hlt
      have hkn : (k : Int) < (n : Int) := by omega
      have HLK := Lib.hid hlk
      clear hlk
      have hb1 : Below wr.heap.size wr (wr.alloc (.cells #[.int .i64 p.lo, .int .i64 p.hi, .bool p.neg] 50)) := (Below.refl _ _).alloc (Nat.le_refl _) _
      have k1 := Blk.new wr 50 #[.int .i64 p.lo, .int .i64 p.hi, .bool p.neg]
      have hb2 := hb.trans (hb1.mono hb.size)
      go_upto_region 4 with fail
      revert hb2 k1
      generalize wr.alloc (.cells #[.int .i64 p.lo, .int .i64 p.hi, .bool p.neg] 50) = w1
      generalize wr.heap.size = Pb
      intro k1 hb2
      have c1 := k1.cell
      have l1 := k1.lt
      clear hb1 hp1 hp2 hp3 hb
      cases hsp : spanB p.lo p.hi with
      | false =>
        have HM : Hid (∀ w, Calls Tryz.prog 22 #[.agg #[.int .i64 p.lo, .int .i64 p.hi]] w fun e w' => e = .returned (.bool false) ∧ Below w.heap.size w w') := fun w => by have := valid_any p.lo p.hi w; rw [hsp] at this; exact this
        have HR : Hid (rightB l = false) := right_not HLK.out (by unfold okB; rw [hsp]; rfl)
        clear hsp
        go_wp2_with fail
        refine (HM.out _).mono ?_
        rintro e w2 ⟨rfl, hb3⟩
        clear c1 l1
        go_wp2_with fail
        go_ret
        exact ⟨by rw [HR.out]; rfl, hb2.trans (hb3.mono hb2.size)⟩
      | true =>
        have HM : Hid (∀ w, Calls Tryz.prog 22 #[.agg #[.int .i64 p.lo, .int .i64 p.hi]] w fun e w' => e = .returned (.bool true) ∧ Below w.heap.size w w') := fun w => by have := valid_any p.lo p.hi w; rw [hsp] at this; exact this
        obtain ⟨s1, s2, s3⟩ := spanB_iff.1 hsp
        by_cases hw : p.hi - p.lo ≤ 100
        · have HS2 := Lib.hid (all_snoc HLK.out hS.out (okB_iff.2 ⟨s1, s2, s3, hw⟩))
          have hwd : decide (p.hi - p.lo > 100) = false := by simp; omega
          clear hsp
          go_wp2_with fail
          refine (HM.out _).mono ?_
          rintro e w2 ⟨rfl, hb3⟩
          have k2 := k1.later hb3
          have c2 := k2.cell
          have l2 := k2.lt
          have hb4 := hb2.trans (hb3.mono hb2.size)
          clear c1 l1 hb3
          go_wp2_with fail
          go_roundw
          case rel => exact ⟨k + 1, by omega, by go_num, HS2.out, hb4⟩
          case measure => simp [RowKit.intOf]; omega
        · have HR : Hid (rightB l = false) := right_not HLK.out (by unfold okB; rw [hsp, decide_eq_false hw]; rfl)
          have hwd : decide (p.hi - p.lo > 100) = true := by simp; omega
          clear hsp
          go_wp2_with fail
          refine (HM.out _).mono ?_
          rintro e w2 ⟨rfl, hb3⟩
          have k2 := k1.later hb3
          have c2 := k2.cell
          have l2 := k2.lt
          have hb4 := hb2.trans (hb3.mono hb2.size)
          clear c1 l1 hb3
          go_wp2_with fail
          go_ret
          exact ⟨by rw [HR.out]; rfl, hb4⟩
    · obtain rfl : k = n := by omega
      have HR : Hid (rightB l = (decide (1 ≤ k) && decide (k ≤ 8))) := by
        show _ = _
        have := hS.out
        rw [← HAn.out, List.take_length] at this
        unfold rightB
        rw [this, HAn.out]; rfl
      clear hS
      by_cases h1 : 1 ≤ k
      · have h1t : decide ((k : Int) ≥ 1) = true := by simp; omega
        by_cases h2 : k ≤ 8
        · have h2t : decide ((k : Int) ≤ 8) = true := by simp; omega
          have HR2 : Hid (rightB l = true) := by show _ = _; rw [HR.out, decide_eq_true h1, decide_eq_true h2]; rfl
          clear HR
          go_wp2_with fail
          go_ret
          exact ⟨by rw [HR2.out]; rfl, hb⟩
        · have h2t : decide ((k : Int) ≤ 8) = false := by simp; omega
          have HR2 : Hid (rightB l = false) := by show _ = _; rw [HR.out, decide_eq_true h1, decide_eq_false h2]; rfl
          clear HR
          go_wp2_with fail
          go_ret
          exact ⟨by rw [HR2.out]; rfl, hb⟩
      · have h1t : decide ((k : Int) ≥ 1) = false := by simp; omega
        have HR2 : Hid (rightB l = false) := by show _ = _; rw [HR.out, decide_eq_false h1]; rfl
        clear HR
        go_wp2_with fail
        go_ret
        exact ⟨by rw [HR2.out]; rfl, hb⟩
end Go.Proofs.YtpklcjbdmikbdaaGreat
namespace Go.Proofs.YtpklcjbdmikbdaaGreat
set_option maxRecDepth 100000
open Go.RowKit

theorem ends_take {l : List Prt} (hok : okPs l) (hl : l.length ≤ 8) (k : Nat) : -8000000 ≤ lowL (l.take k) ∧ lowL (l.take k) ≤ highL (l.take k) ∧ highL (l.take k) ≤ 8000000 := by
  obtain ⟨_, f2, f3, f4, _⟩ := gapsL_facts _ (okPs_take hok k)
  have : (l.take k).length ≤ 8 := by rw [List.length_take]; omega
  omega
theorem ends_step {l : List Prt} {k : Nat} {p : Prt} (h : l[k]? = some p) : lowL (l.take (k + 1)) = lowL (l.take k) + p.low ∧ highL (l.take (k + 1)) = highL (l.take k) + p.high := by
  rw [List.take_add_one, h]
  exact ⟨lowL_snoc _ _, highL_snoc _ _⟩
set_option maxRecDepth 100000 in
set_option maxHeartbeats 8000000 in
theorem ends_any (A : Option Addr) (n c : Nat) (l : List Prt) (w : World) (rA : PartsH w A n l) (hok : okPs l) (hn : n ≤ 8) : Calls Tryz.prog 48 #[.slice A n c] w fun e w' => e = .returned (.agg #[.int .i64 (lowL l), .int .i64 (highL l)]) ∧ Below w.heap.size w w' := by
  have HAn := Lib.hid rA.1
  have HOK := Lib.hid hok
  have hsz : (w.alloc (.cells #[.int .i64 0, .int .i64 0] 24)).heap.size = w.heap.size + 1 := by simp
  have kR := (Blk.new w 24 #[.int .i64 0, .int .i64 0])
  have hb1 : Below w.heap.size w (w.alloc (.cells #[.int .i64 0, .int .i64 0] 24)) := (Below.refl _ _).alloc (Nat.le_refl _) _
  have hb2 : Below (w.alloc (.cells #[.int .i64 0, .int .i64 0] 24)).heap.size (w.alloc (.cells #[.int .i64 0, .int .i64 0] 24)) ((w.alloc (.cells #[.int .i64 0, .int .i64 0] 24)).alloc (.cells #[.int .i64 0, .int .i64 0] 24)) := (Below.refl _ _).alloc (Nat.le_refl _) _
  have kS := Blk.new (w.alloc (.cells #[.int .i64 0, .int .i64 0] 24)) 24 #[.int .i64 0, .int .i64 0]
  rw [hsz] at kS
  have kR2 := kR.later hb2
  have hb3 := hb1.trans (hb2.mono (by rw [hsz]; exact Nat.le_succ _))
  have HA : Hid (∀ wr, Below w.heap.size w wr → PartsH wr A n l) := fun wr hb => rA.later hb
  clear hok hsz kR hb1 hb2 rA
  go_enter Tryz.func48, Tryz.ntmps48
  go_upto_region 2 with fail
  revert kS kR2 hb3 HA
  generalize (w.alloc (.cells #[.int .i64 0, .int .i64 0] 24)).alloc (.cells #[.int .i64 0, .int .i64 0] 24) = w1
  generalize hNe : w.heap.size = N
  intro kS kR2 hb3 HA
  have HNe := Lib.hid hNe
  clear hNe
  have hlS := kS.lt
  have hl0 : lowL [] = 0 := rfl
  have hh0 : highL [] = 0 := rfl
  go_wp2_with fail
  go_loopw [8] (fun i wr => ∃ k : Nat, k ≤ n ∧ i = .int .i64 k ∧ Blk wr (N + 1) 24 #[.int .i64 (lowL (l.take k)), .int .i64 (highL (l.take k))] ∧ w1.grownBy wr (some (N + 1))) (fun i _ => n - (RowKit.intOf i).toNat)
  case atStart => exact ⟨0, Nat.zero_le _, rfl, kS, World.grownBy.refl _ _⟩
  case round =>
    clear kS hl0 hh0
    obtain ⟨k, hk, rfl, kS, hgr⟩ := hrel
    have kR := kR2.grown hgr (by simp)
    have hbw := hb3.grown hgr (by have h1 := hb3.size; rw [HNe.out] at h1; exact h1) (fun i hi => by cases hi; exact Nat.le_succ _)
    by_cases hlt : k < n
    · obtain ⟨g, p, rfl, hg, hlk, hp1, hp2, hp3⟩ := (HA.out wr hbw).at_ hlt
      have hkn : (k : Int) < (n : Int) := by omega
      have hp := okP_ends (HOK.out p (List.mem_of_getElem? hlk))
      obtain ⟨po1, po2, po3, po4⟩ := HOK.out p (List.mem_of_getElem? hlk)
      have hb := ends_take HOK.out (by rw [HAn.out]; exact hn) k
      obtain ⟨q1, q2⟩ := ends_step hlk
      obtain ⟨L, hL⟩ : ∃ L, L = lowL (l.take k) := ⟨_, rfl⟩
      obtain ⟨H, hH⟩ : ∃ H, H = highL (l.take k) := ⟨_, rfl⟩
      rw [← hL] at kS hb q1
      rw [← hH] at kS hb q2
      obtain ⟨b1, b2, b3⟩ := hb
      have HS0 := Lib.hid q1
      have HS1 := Lib.hid q2
      clear hL hH q1 q2 hlk hp
      have kP := Blk.new wr 50 #[.int .i64 p.lo, .int .i64 p.hi, .bool p.neg]
      have hba : Below wr.heap.size wr (wr.alloc (.cells #[.int .i64 p.lo, .int .i64 p.hi, .bool p.neg] 50)) := (Below.refl _ _).alloc (Nat.le_refl _) _
      have kS2 := kS.later hba
      have hgr2 := only_trans_below hgr hba
      have hlN := kS.lt
      go_upto_region 5 with fail
      clear hp1 hp2 hp3 hba kS hgr
      revert kP kS2 hgr2 hlN
      generalize wr.alloc (.cells #[.int .i64 p.lo, .int .i64 p.hi, .bool p.neg] 50) = w2
      generalize wr.heap.size = Pb
      intro kP2 kS2 hgr2 hlN
      cases hng : p.neg
      · rw [hng] at kP2
        have HE0 : Hid (L + p.low = L + p.lo) := by show _ = _; unfold Prt.low; rw [hng]; simp <;> omega
        have HE1 : Hid (H + p.high = H + p.hi) := by show _ = _; unfold Prt.high; rw [hng]; simp <;> omega
        have kS3 := kS2.set_ 0 (.int .i64 (L + p.lo))
        have kP3 := kP2.far (p := ⟨N + 1, 0, none⟩) (by simp; omega) (.int .i64 (L + p.lo))
        have kS4 := kS3.set_ 1 (.int .i64 (H + p.hi))
        have hgr3 := only_setCell hgr2 (p := ⟨N + 1, 0, none⟩) (.inl rfl) (.int .i64 (L + p.lo))
        have hgr4 := only_setCell hgr3 (p := ⟨N + 1, 1, none⟩) (.inl rfl) (.int .i64 (H + p.hi))
        have cS2 := kS2.cell
        have fS2 := kS2.frozen
        have cP2 := kP2.cell
        have lS2 := kS2.lt
        have lP2 := kP2.lt
        have cS3 := kS3.cell
        have fS3 := kS3.frozen
        have cP3 := kP3.cell
        have KS4 : Hid (Blk ((w2.setCell ⟨N + 1, 0, none⟩ (.int .i64 (L + p.lo))).setCell ⟨N + 1, 1, none⟩ (.int .i64 (H + p.hi))) (N + 1) 24 #[.int .i64 (lowL (l.take (k + 1))), .int .i64 (highL (l.take (k + 1)))]) := by
          have e0 := HS0.out
          have e1 := HS1.out
          rw [HE0.out] at e0
          rw [HE1.out] at e1
          rw [e0, e1]
          exact kS4
        have HG4 := Lib.hid hgr4
        clear kS2 kP2 kS3 kP3 kS4 hgr2 hgr3 hgr4 hbw kR
        go_wp2_with fail
        go_roundw
        case rel => exact ⟨k + 1, by omega, by go_num, KS4.out, HG4.out⟩
        case measure => simp [RowKit.intOf]; omega
      · rw [hng] at kP2
        have HE0 : Hid (L + p.low = L - p.hi) := by show _ = _; unfold Prt.low; rw [hng]; simp <;> omega
        have HE1 : Hid (H + p.high = H - p.lo) := by show _ = _; unfold Prt.high; rw [hng]; simp <;> omega
        have kS3 := kS2.set_ 0 (.int .i64 (L - p.hi))
        have kP3 := kP2.far (p := ⟨N + 1, 0, none⟩) (by simp; omega) (.int .i64 (L - p.hi))
        have kS4 := kS3.set_ 1 (.int .i64 (H - p.lo))
        have hgr3 := only_setCell hgr2 (p := ⟨N + 1, 0, none⟩) (.inl rfl) (.int .i64 (L - p.hi))
        have hgr4 := only_setCell hgr3 (p := ⟨N + 1, 1, none⟩) (.inl rfl) (.int .i64 (H - p.lo))
        have cS2 := kS2.cell
        have fS2 := kS2.frozen
        have cP2 := kP2.cell
        have lS2 := kS2.lt
        have lP2 := kP2.lt
        have cS3 := kS3.cell
        have fS3 := kS3.frozen
        have cP3 := kP3.cell
        have KS4 : Hid (Blk ((w2.setCell ⟨N + 1, 0, none⟩ (.int .i64 (L - p.hi))).setCell ⟨N + 1, 1, none⟩ (.int .i64 (H - p.lo))) (N + 1) 24 #[.int .i64 (lowL (l.take (k + 1))), .int .i64 (highL (l.take (k + 1)))]) := by
          have e0 := HS0.out
          have e1 := HS1.out
          rw [HE0.out] at e0
          rw [HE1.out] at e1
          rw [e0, e1]
          exact kS4
        have HG4 := Lib.hid hgr4
        clear kS2 kP2 kS3 kP3 kS4 hgr2 hgr3 hgr4 hbw kR
        go_wp2_with fail
        go_roundw
        case rel => exact ⟨k + 1, by omega, by go_num, KS4.out, HG4.out⟩
        case measure => simp [RowKit.intOf]; omega
    · obtain rfl : k = n := by omega
      have HT : Hid (l.take k = l) := by show _ = _; rw [← HAn.out, List.take_length]
      rw [HT.out] at kS
      obtain ⟨lo, hlo⟩ : ∃ lo, lo = lowL l := ⟨_, rfl⟩
      obtain ⟨hi, hhi⟩ : ∃ hi, hi = highL l := ⟨_, rfl⟩
      rw [← hlo, ← hhi] at kS
      have HLO := Lib.hid hlo
      have HHI := Lib.hid hhi
      clear hlo hhi
      have cS := kS.cell
      have cR := kR.cell
      have fR := kR.frozen
      have lR := kR.lt
      have lS := kS.lt
      go_wp2_with fail
      refine bodyPost_cell N 24 #[.int .i64 lo, .int .i64 hi] (.agg #[.int .i64 lo, .int .i64 hi]) ((kR.set_ 0 (.int .i64 lo)).set_ 1 (.int .i64 hi)) ?_ ⟨by rw [HLO.out, HHI.out], by rw [HNe.out]; exact (hbw.setCell (Nat.le_refl _) _).setCell (Nat.le_refl _) _⟩
      intro W' hW'
      simp [results, Tryz.results48, go_sem, hW']
end Go.Proofs.YtpklcjbdmikbdaaGreat
