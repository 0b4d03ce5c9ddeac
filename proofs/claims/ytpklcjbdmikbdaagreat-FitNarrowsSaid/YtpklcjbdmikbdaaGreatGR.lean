/-
  The seat's texts Rest RestW Cat Piec in one: the contracts of the functions that the law reaches, and the plain laws that they rest on.
  Conditions: as each theorem states them.
-/
import Derived.Test.YtpklcjbdmikbdaaGreatGF
import Derived.Lib.AppendZerosOnto
namespace Go.Proofs.YtpklcjbdmikbdaaGreat
open Go.RowKit

/-- The best shaft so far for a hole. -/
def BestTo (F : Nat → Nat → Prop) (s : List Int) (fr : Nat) (dn : List Bool) (g x : Nat) (b : Int) : Prop :=
  (b < 0 → ∀ y, fr ≤ y → y < x → dn[y]? = some false → ¬ F y g) ∧
  (∀ z : Nat, b = (z : Int) → fr ≤ z ∧ z < x ∧ dn[z]? = some false ∧ F z g ∧ ∀ y, fr ≤ y → y < x → dn[y]? = some false → F y g → s.getD z 0 ≤ s.getD y 0)
section
variable {F : Nat → Nat → Prop} {s : List Int} {fr g x : Nat} {dn : List Bool} {b : Int}
theorem BestTo.first : BestTo F s fr dn g fr (-1) := ⟨fun _ y h1 h2 => by omega, fun z h => by omega⟩
theorem BestTo.skip (h : BestTo F s fr dn g x b) (hx : dn[x]? = some false → ¬ F x g) : BestTo F s fr dn g (x + 1) b := by
  refine ⟨fun h0 y h1 h2 h3 => ?_, fun z hz => ?_⟩
  · rcases Nat.lt_or_ge y x with h4 | h4
    · exact h.1 h0 y h1 h4 h3
    · obtain rfl : y = x := by omega
      exact hx h3
  · obtain ⟨a1, a2, a3, a4, a5⟩ := h.2 z hz
    refine ⟨a1, by omega, a3, a4, fun y h1 h2 h3 h4 => ?_⟩
    rcases Nat.lt_or_ge y x with h5 | h5
    · exact a5 y h1 h5 h3 h4
    · obtain rfl : y = x := by omega
      exact absurd h4 (hx h3)
theorem BestTo.keep {z : Nat} (h : BestTo F s fr dn g x b) (hz : b = (z : Int)) (hs : s.getD z 0 ≤ s.getD x 0) : BestTo F s fr dn g (x + 1) b := by
  refine ⟨fun h0 => by omega, fun z' hz' => ?_⟩
  obtain rfl : z' = z := by omega
  obtain ⟨a1, a2, a3, a4, a5⟩ := h.2 z' hz'
  refine ⟨a1, by omega, a3, a4, fun y h1 h2 h3 h4 => ?_⟩
  rcases Nat.lt_or_ge y x with h5 | h5
  · exact a5 y h1 h5 h3 h4
  · obtain rfl : y = x := by omega
    exact hs
theorem BestTo.better (h : BestTo F s fr dn g x b) (hfr : fr ≤ x) (hx : dn[x]? = some false) (hF : F x g) (hs : b < 0 ∨ ∃ z : Nat, b = (z : Int) ∧ s.getD x 0 < s.getD z 0) : BestTo F s fr dn g (x + 1) (x : Int) := by
  refine ⟨fun h0 => by omega, fun z hz => ?_⟩
  obtain rfl : z = x := by omega
  refine ⟨hfr, by omega, hx, hF, fun y h1 h2 h3 h4 => ?_⟩
  rcases Nat.lt_or_ge y z with h5 | h5
  · rcases hs with hs | ⟨z', hz', hs⟩
    · exact absurd h4 (h.1 hs y h1 h5 h3)
    · have := (h.2 z' hz').2.2.2.2 y h1 h5 h3 h4
      omega
  · obtain rfl : y = z := by omega
    exact Int.le_refl _
end
/-- The order of the holes: each once, by rising size. -/
structure Order (h : List Int) (o : List Int) : Prop where
  len : o.length = h.length
  at_ : ∀ (k : Nat) (v : Int), o[k]? = some v → 0 ≤ v ∧ v < h.length
  all : ∀ k : Nat, k < h.length → (k : Int) ∈ o
  nodup : o.Nodup
  up : o.Pairwise fun a b => h.getD a.toNat 0 ≤ h.getD b.toNat 0
theorem Order.of {h o : List Int} (hp : o.Perm (nums h.length)) (hs : o.Pairwise (leOf (riseC h))) : Order h o where
  len := by rw [hp.length_eq, nums_length]
  at_ := fun k v hv => mem_nums.1 (hp.mem_iff.1 (List.mem_of_getElem? hv))
  all := fun k hk => hp.mem_iff.2 (mem_nums.2 ⟨by omega, by omega⟩)
  nodup := hp.nodup_iff.2 (nums_nodup _)
  up := hs.imp fun {a b} h1 => by
    have := h1.1
    unfold riseC at this
    rw [cmpI_neg] at this
    omega
/-- What is left of the order from k on. -/
def leftO (o : List Int) (k : Nat) : List Nat := (o.drop k).map Int.toNat
theorem leftO_cons {o : List Int} {k g : Nat} (h : o[k]? = some (g : Int)) : leftO o k = g :: leftO o (k + 1) := by
  unfold leftO
  obtain ⟨h1, h2⟩ := List.getElem?_eq_some_iff.1 h
  rw [List.drop_eq_getElem_cons h1, h2, List.map_cons]
  rfl
theorem Order.later {h o : List Int} (ho : Order h o) {k g : Nat} (hk : o[k]? = some (g : Int)) : g ∉ leftO o (k + 1) ∧ ∀ g' ∈ leftO o (k + 1), h.getD g 0 ≤ h.getD g' 0 := by
  obtain ⟨h1, h2⟩ := List.getElem?_eq_some_iff.1 hk
  have hs : o = o.take k ++ (g : Int) :: o.drop (k + 1) := by rw [← h2, ← List.drop_eq_getElem_cons h1, List.take_append_drop]
  have hn := ho.nodup
  have hu := ho.up
  rw [hs, List.nodup_append] at hn
  rw [hs, List.pairwise_append] at hu
  refine ⟨fun hm => ?_, fun g' hg' => ?_⟩
  · obtain ⟨v, hv, e⟩ := List.mem_map.1 hm
    obtain ⟨i, hi⟩ := List.getElem?_of_mem (List.mem_of_mem_drop hv)
    have := ho.at_ i v hi
    have : v = (g : Int) := by omega
    exact (List.nodup_cons.1 hn.2.1).1 (this ▸ hv)
  · obtain ⟨v, hv, rfl⟩ := List.mem_map.1 hg'
    exact (List.pairwise_cons.1 hu.2.1).1 v hv
theorem leftO_all {h o : List Int} (ho : Order h o) {k : Nat} (hk : k < h.length) : k ∈ leftO o 0 := List.mem_map.2 ⟨(k : Int), by simpa [leftO] using ho.all k hk, rfl⟩
theorem leftO_end {o : List Int} {k : Nat} (hk : o.length ≤ k) : leftO o k = [] := by unfold leftO; rw [List.drop_eq_nil_of_le hk]; rfl

/-- The greedy choice at the head of the loop. -/
def GreedK (s h : List Int) (lo hi : Int) (fr : Nat) (tk dn : List Bool) (o : List Int) (k n : Nat) : Prop :=
  dn.length = s.length ∧ n ≤ k ∧ Greed (fitP s h lo hi) (fun x => fr ≤ x ∧ x < s.length) (fun g => tk[g]? = some false) (fun x => fr ≤ x ∧ dn[x]? = some false) (leftO o k) n
section
variable {s h : List Int} {lo hi : Int} {fr k n g : Nat} {tk dn : List Bool} {o : List Int}
theorem GreedK.first (ho : Order h o) (ht : tk.length = h.length) : GreedK s h lo hi fr tk (List.replicate s.length false) o 0 0 := by
  refine ⟨by simp, Nat.le_refl _, fun N hN => ?_⟩
  refine (Greed.first (F := fitP s h lo hi) (A0 := fun x => fr ≤ x ∧ x < s.length) (B0 := fun g => tk[g]? = some false) (R := leftO o 0) (fun g hg => leftO_all ho (by have := (List.getElem?_eq_some_iff.1 hg).1; omega))) N (hN.congr fun x g => ?_)
  rw [List.getElem?_replicate]
  by_cases hx : x < s.length <;> simp [hx]
theorem GreedK.taken (hG : GreedK s h lo hi fr tk dn o k n) (hg : o[k]? = some (g : Int)) (ht : tk[g]? = some true) : GreedK s h lo hi fr tk dn o (k + 1) n := by
  obtain ⟨a, b, c⟩ := hG
  rw [leftO_cons hg] at c
  exact ⟨a, by omega, c.taken (by rw [ht]; simp)⟩
theorem GreedK.skip {b : Int} (hG : GreedK s h lo hi fr tk dn o k n) (hg : o[k]? = some (g : Int)) (ht : tk[g]? = some false) (hb : BestTo (fitP s h lo hi) s fr dn g s.length b) (h0 : b < 0) : GreedK s h lo hi fr tk dn o (k + 1) n := by
  obtain ⟨a1, a2, c⟩ := hG
  rw [leftO_cons hg] at c
  exact ⟨a1, by omega, c.skip ht fun x hx hF => hb.1 h0 x hx.1 hF.1 hx.2 hF⟩
theorem GreedK.take {b : Nat} (hG : GreedK s h lo hi fr tk dn o k n) (ho : Order h o) (hg : o[k]? = some (g : Int)) (ht : tk[g]? = some false) (hb : BestTo (fitP s h lo hi) s fr dn g s.length (b : Int)) : GreedK s h lo hi fr tk (dn.set b true) o (k + 1) (n + 1) := by
  obtain ⟨a1, a2, c⟩ := hG
  rw [leftO_cons hg] at c
  obtain ⟨b1, b2, b3, b4, b5⟩ := hb.2 b rfl
  obtain ⟨l1, l2⟩ := ho.later hg
  refine ⟨by simp [a1], by omega, c.take (b := b) ht l1 (fun x => ?_) (fun hh => ?_) b4 (fun x hx hF g' hg' hF' => fit_less hF (b5 x hx.1 hF.1 hx.2 hF) (l2 g' hg') hF')⟩
  · rw [set_true (by omega)]
    by_cases e : b = x
    · subst e; simp [b1, b3]
    · rw [if_neg e]
      constructor
      · exact fun h => .inl h
      · rintro (h | h)
        · exact h
        · exact absurd h.symm e
  · rw [set_true (by omega), if_pos rfl] at hh
    simp at hh
theorem GreedK.done (hG : GreedK s h lo hi fr tk dn o k n) (hk : o.length ≤ k) : Mx (fitP s h lo hi) (fun x => fr ≤ x) (fun g => tk[g]? = some false) n := by
  obtain ⟨a1, a2, c⟩ := hG
  rw [leftO_end hk] at c
  exact c.done.congr fun x g => ⟨fun ⟨p, q, r⟩ => ⟨p.1, q, r⟩, fun ⟨p, q, r⟩ => ⟨⟨p, r.1⟩, q, r⟩⟩
end
end Go.Proofs.YtpklcjbdmikbdaaGreat
namespace Go.Proofs.YtpklcjbdmikbdaaGreat
open Go.RowKit

/-- What the greedy choice returns. -/
def RestR (s h : List Int) (lo hi : Int) (fr : Nat) (tk : List Bool) (w : World) (e : Ending) (w' : World) : Prop :=
  ∃ n : Nat, e = .returned (.int .i64 n) ∧ n ≤ h.length ∧ Mx (fitP s h lo hi) (fun x => fr ≤ x) (fun g => tk[g]? = some false) n ∧ Below w.heap.size w w'
set_option maxRecDepth 100000 in
set_option maxHeartbeats 16000000 in
theorem rest_any {J : Nat} {As Ah : Option Addr} {cs ch : Nat} {s h : List Int} {lo hi : Int} (w : World) (j : JobW w J As Ah cs ch s h lo hi) (hs : Sizes s) (hh : Sizes h) (l1 : s.length ≤ 64) (l2 : h.length ≤ 70) (R T c1 c2 fr : Nat) (o : List Int) (tk : List Bool)
    (hR : RowB w R o) (ho : Order h o) (hT : RowO w T tk) (ht : tk.length = h.length) (hfr : fr ≤ s.length) :
    Calls Tryz.prog 45 #[.pointer (some ⟨J, 0, none⟩), .int .i64 (fr : Int), .slice (some ⟨R, 0, none⟩) h.length c1, .slice (some ⟨T, 0, none⟩) h.length c2] w (RestR s h lo hi fr tk w) := by
  have hcJ := j.blk.cell
  have hlJ := j.blk.lt
  have hmk := make_bools s.length (by omega)
  have HO := Lib.hid ho
  have HT := Lib.hid ht
  have hD0 := RowO.new w s.length
  have hb0 : Below w.heap.size w (w.alloc (.cells (boolr (List.replicate s.length false)) 4)) := (Below.refl _ _).alloc (Nat.le_refl _) _
  clear ho ht
  go_enter Tryz.func45, Tryz.ntmps45
  go_upto_region 2 with fail
  revert hD0 hb0
  generalize hN : w.heap.size = N
  generalize w.alloc (.cells (boolr (List.replicate s.length false)) 4) = w1
  intro hD0 hb0
  have hRN : R < N := by have := hR.lt; omega
  have hTN : T < N := by have := hT.lt; omega
  have HN := Lib.hid hN
  have jN : ∀ wr : World, Below N w wr → JobW wr J As Ah cs ch s h lo hi := fun _ hb => j.later (by rw [HN.out]; exact hb)
  have rN : ∀ wr : World, Below N w wr → RowB wr R o := fun _ hb => hR.later (by rw [HN.out]; exact hb)
  have tN : ∀ wr : World, Below N w wr → RowO wr T tk := fun _ hb => hT.later (by rw [HN.out]; exact hb)
  clear hmk hcJ hlJ hN
  have HJ := Lib.hid jN
  have HRr := Lib.hid rN
  have HTt := Lib.hid tN
  clear jN rN tN j hR hT
  go_wp2_with fail
  go_loopw [23, 10] (fun i c wr => ∃ (k n : Nat) (dn : List Bool), k ≤ h.length ∧ n ≤ k ∧ i = .int .i64 k ∧ c = .int .i64 n ∧ RowO wr N dn ∧ Hid (GreedK s h lo hi fr tk dn o k n) ∧ Below N w wr) (fun i _ _ => h.length - (intOf i).toNat)
  case atStart => exact ⟨0, 0, _, Nat.zero_le _, Nat.le_refl _, rfl, rfl, hD0, GreedK.first HO.out HT.out, hb0⟩
  case round =>
    clear hD0 hb0
    obtain ⟨k, n, dn, hk, hnk, rfl, rfl, hD, hG, hb⟩ := hrel
    by_cases hlt : k < h.length
    · have hko : k < o.length := by rw [HO.out.len]; exact hlt
      have hov : o[k]? = some (o[k]) := List.getElem?_eq_getElem hko
      have hv := HO.out.at_ k _ hov
      generalize o[k] = v at hov hv
      obtain ⟨g, rfl⟩ := Int.eq_ofNat_of_zero_le hv.1
      have hgm : g < h.length := by omega
      have hgm2 : (g : Int) < (h.length : Int) := by omega
      have hcR := (HRr.out _ hb).at_ hov
      have hlR := (HRr.out _ hb).lt
      obtain ⟨tb, htb⟩ : ∃ b, tk[g]? = some b := ⟨_, List.getElem?_eq_getElem (by rw [HT.out]; exact hgm)⟩
      have hcT := (HTt.out _ hb).at_ htb
      have hlT := (HTt.out _ hb).lt
      have HOV := Lib.hid hov
      have HTB := Lib.hid htb
      clear hov htb hv
      cases tb with
      | true =>
        have HG2 := Lib.hid (hG.out.taken HOV.out HTB.out)
        go_wp2_with fail
        go_roundw
        case rel => exact ⟨k + 1, n, dn, by omega, by omega, by go_num, rfl, hD, HG2.out, hb⟩
        case measure => simp [intOf]; omega
      | false =>
        obtain ⟨wo, hwo⟩ : ∃ wo : World, wo = wr := ⟨_, rfl⟩
        subst hwo
        go_wp2_with fail
        clear hcR hlR hcT hlT
        go_loopw [13, 14] (fun b x wr => ∃ (y : Nat) (z : Int), fr ≤ y ∧ y ≤ s.length ∧ -1 ≤ z ∧ z < s.length ∧ b = .int .i64 z ∧ x = .int .i64 y ∧ Hid (BestTo (fitP s h lo hi) s fr dn g y z) ∧ Below wo.heap.size wo wr) (fun _ x _ => s.length - (intOf x).toNat)
        case atStart => exact ⟨fr, -1, Nat.le_refl _, hfr, by omega, by omega, rfl, rfl, BestTo.first, Below.refl _ _⟩
        case round =>
          obtain ⟨y, z, hy1, hy2, hz1, hz2, rfl, rfl, hB, hbo⟩ := hrel
          have hbw := hb.trans (hbo.mono (by have := hb.size; rw [HN.out] at this; exact this))
          have jr := HJ.out _ hbw
          have hDr := hD.later hbo
          have hcJ := jr.blk.cell
          have hlJ := jr.blk.lt
          by_cases hys : y < s.length
          · have hyl : (y : Int) < (s.length : Int) := by omega
            have hyt : decide ((y : Int) < (s.length : Int)) = true := by simpa using hys
            have hyd : y < dn.length := by rw [hG.out.1]; exact hys
            obtain ⟨db, hdb⟩ : ∃ b, dn[y]? = some b := ⟨_, List.getElem?_eq_getElem hyd⟩
            have hcD := hDr.at_ hdb
            have hlD := hDr.lt
            have HDB := Lib.hid hdb
            have hxl := later_cell (w := wr)
            clear hdb
            cases db with
            | true =>
              have HB2 := Lib.hid (hB.out.skip fun h => by rw [HDB.out] at h; cases h)
              clear hB
              go_wp2_with fail
              refine wp_region_later (by kernel_rfl) (by kernel_rfl) ?_
              repeat (go_big_quiet_step (fail))
              refine wpQuiet_nil ?_
              rintro w2 ⟨⟨_, hb2⟩, rfl⟩
              have hbo2 := hbo.trans (hb2.mono hbo.size)
              clear hcJ hlJ hcD hlD hxl hb2 hbo
              go_wp2_with fail
              go_roundw
              case rel => exact ⟨y + 1, z, by omega, by omega, by omega, by omega, rfl, by go_num, HB2.out, hbo2⟩
              case measure => simp [intOf]; omega
            | false =>
              have HM := Lib.hid fun (w2 : Later wr) => fits_any (lo := lo) (hi := hi) (cs := cs) (ch := ch) w2.val (jr.later w2.property) hs hh y g hys hgm
              by_cases hf : fitB s h lo hi y g = true
              · simp only [hf] at HM
                have hF := (fitB_iff hys hgm).1 hf
                clear hf
                by_cases hz0 : z < 0
                · have hzt : decide (z < 0) = true := by simpa using hz0
                  have HB2 := Lib.hid (hB.out.better hy1 HDB.out hF (.inl hz0))
                  clear hB
                  clear hF
                  go_wp2_with fail
                  refine wp_region_later (by kernel_rfl) (by kernel_rfl) ?_
                  repeat (go_big_quiet_step ((go_at_call 44; exact later_call (HM.out _))))
                  refine wpQuiet_nil ?_
                  rintro w2 ⟨⟨_, hb2⟩, rfl⟩
                  have hbo2 := hbo.trans (hb2.mono hbo.size)
                  clear hcJ hlJ hcD hlD hxl hb2 hbo
                  go_wp2_with fail
                  go_roundw
                  case rel => exact ⟨y + 1, (y : Int), by omega, by omega, by omega, by omega, rfl, by go_num, HB2.out, hbo2⟩
                  case measure => simp [intOf]; omega
                · have hzt : decide (z < 0) = false := by simpa using hz0
                  obtain ⟨q, rfl⟩ := Int.eq_ofNat_of_zero_le (by omega : 0 ≤ z)
                  have hqs : q < s.length := by omega
                  have hqi : (q : Int) < (s.length : Int) := by omega
                  obtain ⟨gs, rfl, hgs, hsc1⟩ := jr.rs.at_ hys
                  obtain ⟨gs', e1, _, hsc2⟩ := jr.rs.at_ hqs
                  cases e1
                  by_cases hlt2 : s.getD y 0 < s.getD q 0
                  · have HB2 := Lib.hid (hB.out.better hy1 HDB.out hF (.inr ⟨q, rfl, hlt2⟩))
                    generalize s.getD y 0 = sy at *
                    generalize s.getD q 0 = sq at *
                    have hl2 : decide (sy < sq) = true := by simpa using hlt2
                    clear hB
                    clear hF
                    go_wp2_with fail
                    refine wp_region_later (by kernel_rfl) (by kernel_rfl) ?_
                    repeat (go_big_quiet_step ((go_at_call 44; exact later_call (HM.out _))))
                    refine wpQuiet_nil ?_
                    rintro w2 ⟨⟨_, hb2⟩, rfl⟩
                    have hbo2 := hbo.trans (hb2.mono hbo.size)
                    clear hcJ hlJ hcD hlD hxl hb2 hbo
                    go_wp2_with fail
                    go_roundw
                    case rel => exact ⟨y + 1, (y : Int), by omega, by omega, by omega, by omega, rfl, by go_num, HB2.out, hbo2⟩
                    case measure => simp [intOf]; omega
                  · have HB2 := Lib.hid (hB.out.keep rfl (by omega))
                    generalize s.getD y 0 = sy at *
                    generalize s.getD q 0 = sq at *
                    have hl2 : decide (sy < sq) = false := by simpa using hlt2
                    clear hB
                    clear hF
                    go_wp2_with fail
                    refine wp_region_later (by kernel_rfl) (by kernel_rfl) ?_
                    repeat (go_big_quiet_step ((go_at_call 44; exact later_call (HM.out _))))
                    refine wpQuiet_nil ?_
                    rintro w2 ⟨⟨_, hb2⟩, rfl⟩
                    have hbo2 := hbo.trans (hb2.mono hbo.size)
                    clear hcJ hlJ hcD hlD hxl hb2 hbo
                    go_wp2_with fail
                    go_roundw
                    case rel => exact ⟨y + 1, (q : Int), by omega, by omega, by omega, by omega, rfl, by go_num, HB2.out, hbo2⟩
                    case measure => simp [intOf]; omega
              · have hf' : fitB s h lo hi y g = false := by simpa using hf
                simp only [hf'] at HM
                have HB2 := Lib.hid (hB.out.skip fun _ hF => hf ((fitB_iff hys hgm).2 hF))
                clear hB
                clear hf hf'
                go_wp2_with fail
                refine wp_region_later (by kernel_rfl) (by kernel_rfl) ?_
                repeat (go_big_quiet_step ((go_at_call 44; exact later_call (HM.out _))))
                refine wpQuiet_nil ?_
                rintro w2 ⟨⟨_, hb2⟩, rfl⟩
                have hbo2 := hbo.trans (hb2.mono hbo.size)
                clear hcJ hlJ hcD hlD hxl hb2 hbo
                go_wp2_with fail
                go_roundw
                case rel => exact ⟨y + 1, z, by omega, by omega, by omega, by omega, rfl, by go_num, HB2.out, hbo2⟩
                case measure => simp [intOf]; omega
          · obtain rfl : y = s.length := by omega
            have hbw0 : Below N w wr := hbw
            by_cases hz0 : z < 0
            · have hzt : decide (z ≥ 0) = false := by simp; omega
              have HG2 := Lib.hid (hG.out.skip HOV.out HTB.out hB.out hz0)
              clear hB
              go_wp2_with fail
              go_roundw
              case rel => exact ⟨k + 1, n, dn, by omega, by omega, by go_num, rfl, hDr, HG2.out, hbw0⟩
              case measure => simp [intOf]; omega
            · have hzt : decide (z ≥ 0) = true := by simp; omega
              obtain ⟨q, rfl⟩ := Int.eq_ofNat_of_zero_le (by omega : 0 ≤ z)
              have HG2 := Lib.hid (hG.out.take HO.out HOV.out HTB.out hB.out)
              have hqd : q < dn.length := by rw [hG.out.1]; omega
              have hqi : (q : Int) < (s.length : Int) := by omega
              obtain ⟨db, hdb⟩ : ∃ b, dn[q]? = some b := ⟨_, List.getElem?_eq_getElem hqd⟩
              have hcD := hDr.at_ hdb
              have hfD := hDr.frozen q
              have hlD := hDr.lt
              have HD2 := Lib.hid (hDr.set_ q true)
              have HB2 := Lib.hid (hbw0.setCell (p := ⟨N, q, none⟩) (Nat.le_refl _) (.bool true))
              clear hB hDr hbw0 hbw hbo hdb
              go_wp2_with fail
              go_roundw
              case rel => exact ⟨k + 1, n + 1, _, by omega, by omega, by go_num, by go_num, HD2.out, HG2.out, HB2.out⟩
              case measure => simp [intOf]; omega
    · obtain rfl : k = h.length := by omega
      have HMx := Lib.hid (hG.out.done (by rw [HO.out.len]; exact Nat.le_refl _))
      go_wp2_with fail
      go_ret
      exact ⟨n, rfl, hnk, HMx.out, by rw [HN.out]; exact hb⟩
end Go.Proofs.YtpklcjbdmikbdaaGreat
namespace Go.Proofs.YtpklcjbdmikbdaaGreat
open Go.RowKit

set_option maxHeartbeats 2000000 in
theorem grow_any (n : Nat) (w : World) (hn : n ≤ 2000) :
    Calls Tryz.prog 81 #[.slice none 0 0, .int .i64 n] w fun e w' => ∃ v, e = .returned v ∧ w'.ownsRow w.heap.size 3 1 v 0 [] ∧ Below w.heap.size w w' := by
  by_cases h0 : n = 0
  · subst h0
    go_enter Tryz.func81, Tryz.ntmps81
    go_wp2_with fail
    go_ret
    exact ⟨_, rfl, World.ownsRow_nil _ _ _ _, Below.refl _ _⟩
  · obtain ⟨i0, hi, hz0, hz1, hz2⟩ := info_parts info3
    have hrz : ∀ ty, (Builtin.append_ #[43, 3] ty #[.slice none 0 0, .int .i64 (n : Int)]).run Tryz.prog w =
        .ok (.slice (some ⟨w.heap.size, 0, none⟩) n (grownCap w n 0 3)) (w.drew.alloc (.cells (#[] ++ Builtin.zeroCells (Value.int .i64 0).cells n ++ Builtin.zeroCells (Value.int .i64 0).cells (grownCap w n 0 3 - n)) 3)) := fun ty => by
      have hold : (Builtin.firstCells i0.size 0 (.slice none 0 0)).run Tryz.prog w.drew = .ok ([] : List Value).toArray w.drew := run_firstCells_none w.drew i0.size 0 0 0
      have h := Lib.run_append_grow_zeros w 43 3 ty 3 i0 (.int .i64 0) .i64 .i64 Tryz.underlying43 Tryz.underlying3 hi hz0 none 0 0 [] hold n (by omega) (by omega) (by omega) (by omega) (by rw [hz2]; omega) (growslice_fits (by omega) (by rw [hz2]; omega))
      simpa using h
    have hG := grownCap_ge w n 0 3
    obtain ⟨G, hGe⟩ : ∃ G, G = grownCap w n 0 3 := ⟨_, rfl⟩
    rw [← hGe] at hrz hG
    have hG63 : G ≤ maxLen := by
      have := grownCap_le_maxLen w n 0 3 (by unfold maxLen; omega)
      rwa [← hGe] at this
    have hcs : (#[] ++ Builtin.zeroCells (Value.int .i64 0).cells n ++ Builtin.zeroCells (Value.int .i64 0).cells (G - n) : Array Value).size = G * 1 := by
      simp [Builtin.zeroCells, Value.cells]
      omega
    generalize (#[] ++ Builtin.zeroCells (Value.int .i64 0).cells n ++ Builtin.zeroCells (Value.int .i64 0).cells (G - n) : Array Value) = cs at *
    have hb63 : (G : Int) ≤ 9223372036854775807 := by unfold maxLen at hG63; omega
    have HG := Lib.hid (And.intro hG63 hcs)
    clear hGe hi hz0 hz1 hz2 hG63 hcs
    have hn0 : (0 : Int) < (n : Int) := by omega
    go_enter Tryz.func81, Tryz.ntmps81
    go_wp2_with (at_builtin; refine Lib.wpList_append_run _ rfl _ _ _ _ rfl _ _ rfl rfl _ _ (hrz _) ?_)
    all_goals (go_ret; exact ⟨_, rfl, World.ownsRow_made (base := w.heap.size) (e := 3) (size := 1) w.drew cs G (by simp) HG.out.1 HG.out.2, ((Below.refl _ _).drew).alloc (by simp) _⟩)

/-- What Concat has put together. -/
def CatK (w0 : World) (f s : List Int) (k : Nat) (v : Value) (wr : World) : Prop :=
  wr.ownsRow w0.heap.size 3 1 v (if k = 0 then 0 else if k = 1 then f.length else f.length + s.length) ((if k = 0 then [] else if k = 1 then f else f ++ s).map (Value.int .i64)) ∧ Below w0.heap.size w0 wr

set_option maxHeartbeats 4000000 in
theorem concat_any (A B : Option Addr) (n c m d g0 : Nat) (f s : List Int) (w : World) (hG : Blk w g0 43 #[.slice A n c, .slice B m d]) (rA : RowI w A n f) (rB : RowI w B m s) (hn : n ≤ 1000) (hm : m ≤ 1000) :
    Calls Tryz.prog 62 #[.slice (some ⟨g0, 0, none⟩) 2 2] w fun e w' => ∃ v, e = .returned v ∧ CatK w f s 2 v w' := by
  have lA := Lib.hid rA.1
  have lB := Lib.hid rB.1
  go_enter Tryz.func62, Tryz.ntmps62
  go_wp2_with fail
  go_loopw [3, 11] (fun t i wr => ∃ (k : Nat), k ≤ 2 ∧ i = .int .i64 k ∧ t = .int .i64 (if k = 0 then 0 else if k = 1 then (n : Int) else (n : Int) + m) ∧ w = wr) (fun _ i _ => 2 - (intOf i).toNat)
  case atStart => exact ⟨0, by omega, rfl, rfl, rfl⟩
  case round =>
    obtain ⟨k, hk, rfl, rfl, rfl⟩ := hrel
    have cG := hG.cell
    have zG := hG.lt
    rcases (show k = 0 ∨ k = 1 ∨ k = 2 by omega) with rfl | rfl | rfl
    · simp only [if_true]
      go_wp2_with fail
      go_roundw
      case rel => exact ⟨1, by omega, rfl, by simp, trivial⟩
      case measure => simp [intOf]
    · simp only [if_true, if_neg (show ¬ (1 : Nat) = 0 by omega)]
      have hs : ¬ ((n : Int) + (m : Int) < 0) := by omega
      have hsd : decide ((n : Int) + (m : Int) < 0) = false := by simp; omega
      go_wp2_with fail
      go_roundw
      case rel => exact ⟨2, by omega, rfl, by simp, trivial⟩
      case measure => simp [intOf]
    · simp only [if_neg (show ¬ (2 : Nat) = 0 by omega), if_neg (show ¬ (2 : Nat) = 1 by omega)]
      obtain ⟨N, hN⟩ : ∃ N, N = n + m := ⟨_, rfl⟩
      have hsum : (n : Int) + (m : Int) = (N : Int) := by omega
      have hnm : N ≤ 2000 := by omega
      rw [hsum]
      clear hsum hN
      go_wp2_with fail
      refine (grow_any N _ hnm).mono ?_
      rintro e w1 ⟨v, rfl, hown, hb1⟩
      have hG1 := hG.later hb1
      have cG1 := hG1.cell
      have zG1 := hG1.lt
      clear cG zG
      go_wp2_with fail
      go_loopw [6, 27] (fun v i wr => ∃ (k : Nat), k ≤ 2 ∧ i = .int .i64 k ∧ CatK w f s k v wr) (fun _ i _ => 2 - (intOf i).toNat)
      case atStart => exact ⟨0, by omega, rfl, hown, hb1⟩
      case round =>
        clear hown hb1 hG1 cG1 zG1
        obtain ⟨k, hk, rfl, hK⟩ := hrel
        obtain ⟨v, hv⟩ : ∃ v, v = u6 := ⟨_, rfl⟩
        subst hv
        obtain ⟨hown, hb⟩ := hK
        have hG2 := hG.later hb
        have rA2 := rA.later hb
        have rB2 := rB.later hb
        have cG := hG2.cell
        have zG := hG2.lt
        have sz := hb.size
        rcases (show k = 0 ∨ k = 1 ∨ k = 2 by omega) with rfl | rfl | rfl
        · simp only [if_true] at hown
          go_wp2_with (at_builtin; refine app_ints _ rfl (.tmp 31) (.tmp 32) rfl w.heap.size _ _ _ rfl hown _ n c f rfl rA2 (by have := lA.out; omega) sz ?_)
          intro v2 w2 hown2 hgr
          have hb2 := hb.grown hgr sz (fun k hk => (hown.lt k hk).1)
          go_wp2_with fail
          go_roundw
          case rel =>
            refine ⟨1, by omega, rfl, ?_, hb2⟩
            simpa [lA.out] using hown2
          case measure => simp [intOf]
        · simp only [if_true, if_neg (show ¬ (1 : Nat) = 0 by omega)] at hown
          go_wp2_with (at_builtin; refine app_ints _ rfl (.tmp 31) (.tmp 32) rfl w.heap.size _ _ _ rfl hown _ m d s rfl rB2 (by have := lA.out; omega) sz ?_)
          intro v2 w2 hown2 hgr
          have hb2 := hb.grown hgr sz (fun k hk => (hown.lt k hk).1)
          go_wp2_with fail
          go_roundw
          case rel =>
            refine ⟨2, by omega, rfl, ?_, hb2⟩
            simpa [lB.out] using hown2
          case measure => simp [intOf]
        · go_wp2_with fail
          go_ret
          exact ⟨_, rfl, hown, hb⟩
end Go.Proofs.YtpklcjbdmikbdaaGreat
namespace Go.Proofs.YtpklcjbdmikbdaaGreat
open Go.RowKit

def sizeB (v : Int) : Bool := decide (-1000000 ≤ v) && decide (v ≤ 1000000)
def sizesB (l : List Int) : Bool := l.all sizeB
theorem sizesB_iff {l : List Int} : sizesB l = true ↔ Sizes l := by
  unfold sizesB Sizes sizeB
  simp [List.all_eq_true]
theorem own_slice {w : World} {base E s : Nat} {v : Value} {n : Nat} {xs : List Value} (h : w.ownsRow base E s v n xs) : ∃ A c, v = .slice A n c := by
  rcases h.2 with ⟨h1, h2⟩ | ⟨g, cap, cur, h1, _⟩
  · exact ⟨none, 0, by rw [h1, h2]⟩
  · exact ⟨_, _, h1⟩
theorem own_later {w w' : World} {base E s : Nat} {v : Value} {n : Nat} {xs : List Value} (h : w.ownsRow base E s v n xs) (hb : Below w.heap.size w w') : w'.ownsRow base E s v n xs :=
  h.kept (only_of_below hb none) (by cases hv : v.ownBlock with | none => exact .inl rfl | some g => exact .inr (by simp))
/-- Valid pieces. -/
def piecesB (s h : List Int) (lo hi : Int) : Bool := sizesB (s ++ h) && (decide (s.length ≤ 64) && (decide (h.length ≤ 64) && spanB lo hi))
theorem piecesB_iff {s h : List Int} {lo hi : Int} : piecesB s h lo hi = true ↔ Sizes s ∧ Sizes h ∧ s.length ≤ 64 ∧ h.length ≤ 64 ∧ spanB lo hi = true := by
  unfold piecesB
  simp only [Bool.and_eq_true, decide_eq_true_eq, sizesB_iff]
  constructor
  · rintro ⟨h1, h2, h3, h4⟩
    exact ⟨fun v hv => h1 v (List.mem_append_left _ hv), fun v hv => h1 v (List.mem_append_right _ hv), h2, h3, h4⟩
  · rintro ⟨h1, h1', h2, h3, h4⟩
    exact ⟨fun v hv => (List.mem_append.1 hv).elim (h1 v) (h1' v), h2, h3, h4⟩
theorem all_false {l : List Int} {k : Nat} {v : Int} (h : l[k]? = some v) (hv : sizeB v = false) : sizesB l = false := by
  unfold sizesB
  rw [List.all_eq_false]
  exact ⟨v, List.mem_of_getElem? h, by simp [hv]⟩
theorem all_step {l : List Int} {k : Nat} {v : Int} (h : l[k]? = some v) (hk : sizesB (l.take k) = true) (hv : sizeB v = true) : sizesB (l.take (k + 1)) = true := by
  unfold sizesB at *
  rw [List.take_add_one, h, List.all_append, hk]
  simp [hv]
set_option maxRecDepth 100000 in
set_option maxHeartbeats 8000000 in
theorem pieces_any (A B : Option Addr) (c d : Nat) (s h : List Int) (lo hi : Int) (w : World) (rA : RowI w A s.length s) (rB : RowI w B h.length h) (hn : s.length ≤ 1000) (hm : h.length ≤ 1000) :
    Calls Tryz.prog 41 #[.slice A s.length c, .slice B h.length d, .agg #[.int .i64 lo, .int .i64 hi]] w fun e w' => e = .returned (.bool (piecesB s h lo hi)) ∧ Below w.heap.size w w' := by
  have hb1 : Below w.heap.size w (w.alloc (.cells #[.int .i64 lo, .int .i64 hi] 24)) := (Below.refl _ _).alloc (Nat.le_refl _) _
  have k1 := Blk.new w 24 #[.int .i64 lo, .int .i64 hi]
  have hsz : (w.alloc (.cells #[.int .i64 lo, .int .i64 hi] 24)).heap.size = w.heap.size + 1 := by simp
  have hb2 : Below (w.alloc (.cells #[.int .i64 lo, .int .i64 hi] 24)).heap.size (w.alloc (.cells #[.int .i64 lo, .int .i64 hi] 24)) ((w.alloc (.cells #[.int .i64 lo, .int .i64 hi] 24)).alloc (.cells #[.slice A s.length c, .slice B h.length d] 43)) := (Below.refl _ _).alloc (Nat.le_refl _) _
  have k2 := Blk.new (w.alloc (.cells #[.int .i64 lo, .int .i64 hi] 24)) 43 #[.slice A s.length c, .slice B h.length d]
  rw [hsz] at k2
  have hb3 := hb1.trans (hb2.mono (by rw [hsz]; exact Nat.le_succ _))
  have HC := Lib.hid (concat_any A B s.length c h.length d (w.heap.size + 1) s h _ k2 (rA.later hb3) (rB.later hb3) hn hm)
  have k3 := k1.later hb2
  clear hsz
  go_enter Tryz.func41, Tryz.ntmps41
  go_wp2_with fail
  refine HC.out.mono ?_
  rintro e w3 ⟨v, rfl, hK⟩
  obtain ⟨hown, hb4⟩ := hK
  simp only [if_neg (show ¬ (2 : Nat) = 0 by omega), if_neg (show ¬ (2 : Nat) = 1 by omega)] at hown
  obtain ⟨C, cc, rfl⟩ := own_slice hown
  have rC := own_rowI hown
  obtain ⟨l, hl⟩ : ∃ l, l = s ++ h := ⟨_, rfl⟩
  obtain ⟨N, hN⟩ : ∃ N, N = s.length + h.length := ⟨_, rfl⟩
  have hN2 : N ≤ 2000 := by omega
  rw [← hl] at rC
  rw [← hN] at rC ⊢
  have k4 := k3.later hb4
  have hb5 := hb3.trans (hb4.mono hb3.size)
  have HB : Hid (piecesB s h lo hi = (sizesB l && (decide (s.length ≤ 64) && (decide (h.length ≤ 64) && spanB lo hi)))) := by show _ = _; rw [hl]; rfl
  have HL := Lib.hid hl
  have HN := Lib.hid hN
  have hll := rC.1
  have HLL := Lib.hid hll
  clear hb1 hb2 hb3 hb4 k1 k2 k3 HC hown hl hN hll
  go_wp2_with fail
  go_loopw [14] (fun i wr => ∃ k : Nat, k ≤ N ∧ i = .int .i64 k ∧ Hid (sizesB (l.take k) = true) ∧ Below w3.heap.size w3 wr) (fun i _ => N - (intOf i).toNat)
  case atStart => exact ⟨0, Nat.zero_le _, rfl, rfl, Below.refl _ _⟩
  case round =>
    obtain ⟨k, hk, rfl, hS, hb6⟩ := hrel
    have hb7 := hb5.trans (hb6.mono hb5.size)
    by_cases hlt : k < N
    · obtain ⟨a, rfl, ha, hc⟩ := (rC.later hb6).at_ hlt
      have hv : l[k]? = some (l.getD k 0) := by
        rw [List.getD_eq_getElem?_getD, List.getElem?_eq_getElem (by rw [HLL.out]; exact hlt)]; rfl
      generalize l.getD k 0 = v at *
      have hkN : (k : Int) < (N : Int) := by omega
      have HV := Lib.hid hv
      clear hv
      cases hvb : sizeB v with
      | true =>
        have HS2 := Lib.hid (all_step HV.out hS.out hvb)
        have HM : Hid (∀ w, Calls Tryz.prog 35 #[.int .i64 v, .int .i64 1000000] w fun e w' => e = .returned (.bool true) ∧ w = w') := by
          intro w
          have := within_any v 1000000 w (by omega) (by omega)
          rw [show (decide (-1000000 ≤ v) && decide (v ≤ 1000000)) = true from hvb] at this
          exact this
        clear hvb hS
        go_wp2_with fail
        refine (HM.out _).mono ?_
        rintro e w4 ⟨rfl, rfl⟩
        go_wp2_with fail
        go_roundw
        case rel => exact ⟨k + 1, by omega, by go_num, HS2.out, hb6⟩
        case measure => simp [intOf]; omega
      | false =>
        have HR : Hid (piecesB s h lo hi = false) := by show _ = _; rw [HB.out, all_false HV.out hvb]; rfl
        have HM : Hid (∀ w, Calls Tryz.prog 35 #[.int .i64 v, .int .i64 1000000] w fun e w' => e = .returned (.bool false) ∧ w = w') := by
          intro w
          have := within_any v 1000000 w (by omega) (by omega)
          rw [show (decide (-1000000 ≤ v) && decide (v ≤ 1000000)) = false from hvb] at this
          exact this
        clear hvb hS
        go_wp2_with fail
        refine (HM.out _).mono ?_
        rintro e w4 ⟨rfl, rfl⟩
        go_wp2_with fail
        go_ret
        exact ⟨by rw [HR.out]; rfl, hb7⟩
    · obtain rfl : k = N := by omega
      have HR : Hid (piecesB s h lo hi = (decide (s.length ≤ 64) && (decide (h.length ≤ 64) && spanB lo hi))) := by
        show _ = _
        have := hS.out
        rw [List.take_of_length_le (by rw [HLL.out]; exact Nat.le_refl _)] at this
        rw [HB.out, this]; rfl
      have k5 := (k4.later hb6).cell
      have l5 := (k4.later hb6).lt
      clear HB hS rC HLL HL
      by_cases hs : s.length ≤ 64
      · have hst : decide ((s.length : Int) ≤ 64) = true := by simp; omega
        by_cases hh : h.length ≤ 64
        · have hht : decide ((h.length : Int) ≤ 64) = true := by simp; omega
          have HR2 : Hid (piecesB s h lo hi = spanB lo hi) := by show _ = _; rw [HR.out, decide_eq_true hs, decide_eq_true hh]; rfl
          have HM := Lib.hid fun w => valid_any lo hi w
          generalize spanB lo hi = sb at *
          clear HR
          go_wp2_with fail
          refine (HM.out _).mono ?_
          rintro e w4 ⟨rfl, hb8⟩
          go_wp2_with fail
          go_ret
          exact ⟨by rw [HR2.out]; rfl, hb7.trans (hb8.mono hb7.size)⟩
        · have hht : decide ((h.length : Int) ≤ 64) = false := by simp; omega
          have HR2 : Hid (piecesB s h lo hi = false) := by show _ = _; rw [HR.out, decide_eq_true hs, decide_eq_false hh]; rfl
          clear HR
          go_wp2_with fail
          go_ret
          exact ⟨by rw [HR2.out]; rfl, hb7⟩
      · have hst : decide ((s.length : Int) ≤ 64) = false := by simp; omega
        have HR2 : Hid (piecesB s h lo hi = false) := by show _ = _; rw [HR.out, decide_eq_false hs]; rfl
        clear HR
        go_wp2_with fail
        go_ret
        exact ⟨by rw [HR2.out]; rfl, hb7⟩
end Go.Proofs.YtpklcjbdmikbdaaGreat
