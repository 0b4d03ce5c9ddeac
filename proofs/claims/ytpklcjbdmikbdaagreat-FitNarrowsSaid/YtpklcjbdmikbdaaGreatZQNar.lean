/-
Proved: FitNarrows: Narrow names the part that should be made with more care, or the error that the document names: of small stacks.
  Conditions: none.
-/
import Derived.Test.YtpklcjbdmikbdaaGreatGC
import Derived.Test.YtpklcjbdmikbdaaGreatGE
import Derived.Test.YtpklcjbdmikbdaaGreatGN
import Derived.Test.YtpklcjbdmikbdaaGreatGO
namespace Go.Proofs.YtpklcjbdmikbdaaGreat.fitNarrows
set_option maxRecDepth 100000
open Go.RowKit

theorem few_choices {L : List Prt} (hr : rightB L = true) (hm : rightB L = true → widN L ≤ 2000 ∨ L.length ≤ 1) : widN L ≤ 9999 := by
  rcases hm hr with h | h
  · omega
  · have := widN_bound (rightB_iff.1 hr).1
    have h2 : 101 ^ L.length ≤ 101 ^ 1 := Nat.pow_le_pow_right (by omega) h
    omega
theorem sure_iff {lo hi : Int} {L : List Prt} (h : okPs L) : sureB lo hi L = (decide (lo ≤ lowL L) && decide (highL L ≤ hi)) := by
  have h1 : lowL L ≤ highL L := by
    have h0 : 0 < (gapsL L).length := by rw [wid_all]; exact widN_pos h
    obtain ⟨x, hx⟩ := List.exists_mem_of_length_pos h0
    have := (gaps_iff L h x).1 hx
    omega
  unfold sureB
  by_cases a : lo ≤ lowL L <;> by_cases b : highL L ≤ hi
  · have c : lowL L ≤ hi := by omega
    have d : lo ≤ highL L := by omega
    simp [a, b, c, d]
  all_goals simp [a, b]
/-- What the law's loop holds: the choice, and its share. -/
def LawS (s : Int × Nat × Nat) (bv : Int) (a b : Nat) : Prop := bv = s.1 ∧ (0 ≤ bv → a = s.2.1 ∧ b = s.2.2)
theorem LawS.zero (lo hi : Int) (l : List Prt) (a b : Nat) : LawS (narS lo hi l 0) (-1) a b := ⟨rfl, fun h => by omega⟩
theorem LawS.skip {lo hi : Int} {l : List Prt} {k : Nat} {bv : Int} {a b : Nat} {p : Prt} (h : LawS (narS lo hi l k) bv a b) (hk : l[k]? = some p) (hp : p.lo = p.hi) : LawS (narS lo hi l (k + 1)) bv a b := by
  rw [narS_skip hk hp]; exact h
theorem LawS.first {lo hi : Int} {l : List Prt} {k : Nat} {bv : Int} {a b : Nat} {p : Prt} (h : LawS (narS lo hi l k) bv a b) (hk : l[k]? = some p) (hp : p.lo ≠ p.hi) (hw : bv < 0) :
    LawS (narS lo hi l (k + 1)) (k : Int) (goodN lo hi (gapsL (slimL l k))) (gapsL (slimL l k)).length := by
  rw [narS_take hk hp (.inl (by have := h.1; omega))]
  exact ⟨rfl, fun _ => ⟨rfl, rfl⟩⟩
theorem LawS.more {lo hi : Int} {l : List Prt} {k : Nat} {bv : Int} {a b : Nat} {p : Prt} (h : LawS (narS lo hi l k) bv a b) (hk : l[k]? = some p) (hp : p.lo ≠ p.hi) (hw : 0 ≤ bv)
    (hc : 0 < cmpN (goodN lo hi (gapsL (slimL l k)) * b) (a * (gapsL (slimL l k)).length)) :
    LawS (narS lo hi l (k + 1)) (k : Int) (goodN lo hi (gapsL (slimL l k))) (gapsL (slimL l k)).length := by
  obtain ⟨e1, e2⟩ := h
  obtain ⟨e3, e4⟩ := e2 hw
  rw [cmpN_pos, e3, e4] at hc
  rw [narS_take hk hp (.inr hc)]
  exact ⟨rfl, fun _ => ⟨rfl, rfl⟩⟩
theorem LawS.less {lo hi : Int} {l : List Prt} {k : Nat} {bv : Int} {a b : Nat} {p : Prt} (h : LawS (narS lo hi l k) bv a b) (hk : l[k]? = some p) (hp : p.lo ≠ p.hi) (hw : 0 ≤ bv)
    (hc : ¬ 0 < cmpN (goodN lo hi (gapsL (slimL l k)) * b) (a * (gapsL (slimL l k)).length)) :
    LawS (narS lo hi l (k + 1)) bv a b := by
  have h0 := h
  obtain ⟨e1, e2⟩ := h
  obtain ⟨e3, e4⟩ := e2 hw
  rw [cmpN_pos, e3, e4] at hc
  rw [narS_keep hk hp (by
    rintro (h | h)
    · omega
    · exact hc h)]
  exact h0
theorem LawS.sign {lo hi : Int} {l : List Prt} {k : Nat} {bv : Int} {a b : Nat} (h : LawS (narS lo hi l k) bv a b) (hr : rightB l = true) (hm : widN l ≤ 9999) : bv = -1 ∨ (0 ≤ bv ∧ a < 10000 ∧ b < 10000) := by
  obtain ⟨e1, e2⟩ := h
  rcases narS_facts (lo := lo) (hi := hi) (rightB_iff.1 hr).1 k with h | ⟨i, p, h1, h2, h3, h4, h5, h6⟩
  · exact .inl (by omega)
  · obtain ⟨e3, e4⟩ := e2 (by omega)
    have h7 := slim_len hr h1 h2 hm
    have h8 := goodN_le lo hi (gapsL (slimL l i))
    exact .inr ⟨by omega, by omega, by omega⟩
theorem parts_copy (g c : Nat) (L : List Prt) (w : World) (rL : PartsH w (some ⟨g, 0, none⟩) L.length L) (h9 : L.length ≤ 9) (hc : L.length ≤ c) (h0 : 0 < L.length) :
    Calls Tryz.prog 17 #[.slice (some ⟨g, 0, none⟩) L.length c] w fun e w' => ∃ R c', e = .returned (.slice (some ⟨R, 0, none⟩) L.length c') ∧ w.heap.size ≤ R ∧ L.length ≤ c' ∧ CB w' R (pcells L) ∧ Below w.heap.size w w' := by
  refine (partsO_any _ _ c L w rL.partsA hc (fun e => by cases e)).mono ?_
  rintro e w' ⟨v, rfl, hown, hb⟩
  rw [List.take_of_length_le h9] at hown
  obtain ⟨R, c', rfl, h1, h2, h3⟩ := own_some hown h0
  exact ⟨R, c', rfl, h1, h2, h3, hb⟩
/-- A share is stored in the block of the best one. -/
theorem store4 {w5 v : World} {N a b : Nat} {xA yA cA dA : Option Addr} {xn xc yn yc cn cc dn dc : Nat} (kM : Blk v N 47 #[.bool false, .slice xA xn xc, .bool false, .slice yA yn yc]) (mc : MagD v (.slice cA cn cc) a) (md : MagD v (.slice dA dn dc) b) (hbf : Below N w5 v) :
    ∀ V, V = ((((v.setCell ⟨N, 0, none⟩ (.bool false)).setCell ⟨N, 1, none⟩ (.slice cA cn cc)).setCell ⟨N, 2, none⟩ (.bool false)).setCell ⟨N, 3, none⟩ (.slice dA dn dc)).drew →
    Blk V N 47 #[.bool false, .slice cA cn cc, .bool false, .slice dA dn dc] ∧ MagD V (.slice cA cn cc) a ∧ MagD V (.slice dA dn dc) b ∧ Below N w5 V := by
  rintro V rfl
  have kR1 := kM.set_ 0 (.bool false)
  have kR2 := kR1.set_ 1 (.slice cA cn cc)
  have kR3 := kR2.set_ 2 (.bool false)
  have kR4 := kR3.set_ 3 (.slice dA dn dc)
  have far4 : ∀ {u : Value} {k : Nat}, MagD v u k → MagD ((((v.setCell ⟨N, 0, none⟩ (.bool false)).setCell ⟨N, 1, none⟩ (.slice cA cn cc)).setCell ⟨N, 2, none⟩ (.bool false)).setCell ⟨N, 3, none⟩ (.slice dA dn dc)) u k := fun h =>
    (((h.far (r := [.slice xA xn xc, .bool false, .slice yA yn yc]) kM rfl (.bool false)).far (r := [.slice xA xn xc, .bool false, .slice yA yn yc]) kR1 rfl (.slice cA cn cc)).far (r := [.slice cA cn cc, .bool false, .slice yA yn yc]) kR2 rfl (.bool false)).far (r := [.slice cA cn cc, .bool false, .slice yA yn yc]) kR3 rfl (.slice dA dn dc)
  have HB := (((hbf.setCell (p := ⟨N, 0, none⟩) (Nat.le_refl _) (.bool false)).setCell (p := ⟨N, 1, none⟩) (Nat.le_refl _) (.slice cA cn cc)).setCell (p := ⟨N, 2, none⟩) (Nat.le_refl _) (.bool false)).setCell (p := ⟨N, 3, none⟩) (Nat.le_refl _) (.slice dA dn dc)
  exact ⟨kR4.drew, (far4 mc).later (Below.refl _ _).drew, (far4 md).later (Below.refl _ _).drew, HB.drew⟩
set_option maxHeartbeats 32000000 in
theorem walk (A : Option Addr) (n c : Nat) (lo hi : Int) (l : List Prt) (w : World) (hsA : PartsA w A n l) (hcA : n ≤ c) (hnA : A = none → c = 0) :
    Calls Tryz.prog 4 #[.slice A n c, .agg #[.int .i64 lo, .int .i64 hi]] w fun e w' => e = .returned (.bool true) ∧ Below w.heap.size w w' := by
  have hb0 : Below w.heap.size w (w.alloc (.cells #[.int .i64 lo, .int .i64 hi] 24)) := (Below.refl _ _).alloc (Nat.le_refl _) _
  have kN := Blk.new w 24 #[.int .i64 lo, .int .i64 hi]
  have HP := Lib.hid (light_any A n c 2000 l _ (hsA.later hb0) hcA hnA (by omega))
  clear hsA hcA hnA
  go_enter Tryz.func4, Tryz.ntmps4
  go_upto_region 1 with fail
  have HALL := And.intro kN hb0
  clear kN hb0
  revert HALL HP
  generalize w.alloc (.cells #[.int .i64 lo, .int .i64 hi] 24) = w1
  intro HP HALL
  obtain ⟨kN, hb⟩ := HALL
  go_wp2_with fail
  refine HP.out.mono ?_
  rintro e w2 ⟨A2, c2, L, rfl, rL, hl9, hcap, hmost, hb2⟩
  have kN := kN.later hb2
  have hbl := hb.trans (hb2.mono hb.size)
  have HMOST := Lib.hid hmost
  clear HP hb hb2 hmost
  have hbf := Below.refl w2.heap.size w2
  cases hrs : (rightB L && spanB lo hi) with
  | false =>
    have HC : Hid (∀ w', Below w2.heap.size w2 w' → _) := fun w' h => narrow_no A2 L.length c2 L lo hi w' (rL.later h) (by omega) hrs
    have HR : Hid (∀ w', Below w2.heap.size w2 w' → Calls Tryz.prog 8 #[.slice A2 L.length c2] w' fun e w'' => e = .returned (.bool (rightB L)) ∧ Below w'.heap.size w' w'') := fun w' h => rStack_any A2 L.length c2 L w' (rL.later h) (by omega)
    have HQ : Hid (∀ w', Calls Tryz.prog 9 #[.agg #[.int .i64 lo, .int .i64 hi], .int .i64 1000000] w' fun e w'' => e = .returned (.bool (spanB lo hi)) ∧ Below w'.heap.size w' w'') := fun w' => by have := rSpan_any lo hi 1000000 w' (by omega) (by omega); rw [span_same] at this; exact this
    have ckN := kN.cell
    have lkN := kN.lt
    go_wp2_with fail
    refine (HC.out _ hbf).mono ?_
    rintro e wc1 ⟨rfl, hbc⟩
    replace kN := kN.later hbc
    replace hbf := hbf.trans (hbc.mono hbf.size)
    replace hbl := hbl.trans (hbc.mono hbl.size)
    clear hbc
    clear ckN lkN
    clear HC rL HMOST hl9 hcap
    cases hr : rightB L with
    | false =>
      rw [hr] at HR
      clear hr hrs HQ
      have ckN := kN.cell
      have lkN := kN.lt
      go_wp2_with fail
      refine (HR.out _ hbf).mono ?_
      rintro e wc2 ⟨rfl, hbc⟩
      replace kN := kN.later hbc
      replace hbl := hbl.trans (hbc.mono hbl.size)
      clear hbc
      clear ckN lkN
      have ckN := kN.cell
      have lkN := kN.lt
      go_wp2_with fail
      refine (lives_any _).mono ?_
      rintro e wc3 ⟨rfl, hbc⟩
      replace kN := kN.later hbc
      replace hbl := hbl.trans (hbc.mono hbl.size)
      clear hbc
      clear ckN lkN
      have ckN := kN.cell
      have lkN := kN.lt
      go_wp2_with fail
      go_ret
      exact ⟨rfl, hbl⟩
    | true =>
      have hsp : spanB lo hi = false := by rw [hr, Bool.true_and] at hrs; exact hrs
      rw [hr] at HR
      rw [hsp] at HQ
      clear hr hrs hsp
      have ckN := kN.cell
      have lkN := kN.lt
      go_wp2_with fail
      refine (HR.out _ hbf).mono ?_
      rintro e wc4 ⟨rfl, hbc⟩
      replace kN := kN.later hbc
      replace hbf := hbf.trans (hbc.mono hbf.size)
      replace hbl := hbl.trans (hbc.mono hbl.size)
      clear hbc
      clear ckN lkN
      have ckN := kN.cell
      have lkN := kN.lt
      go_wp2_with fail
      refine (HQ.out _).mono ?_
      rintro e wc5 ⟨rfl, hbc⟩
      replace kN := kN.later hbc
      replace hbl := hbl.trans (hbc.mono hbl.size)
      clear hbc
      clear ckN lkN
      have ckN := kN.cell
      have lkN := kN.lt
      go_wp2_with fail
      refine (lives_any _).mono ?_
      rintro e wc6 ⟨rfl, hbc⟩
      replace kN := kN.later hbc
      replace hbl := hbl.trans (hbc.mono hbl.size)
      clear hbc
      clear ckN lkN
      have ckN := kN.cell
      have lkN := kN.lt
      go_wp2_with fail
      go_ret
      exact ⟨rfl, hbl⟩
  | true =>
    obtain ⟨hr, hsp⟩ : rightB L = true ∧ spanB lo hi = true := by simpa using hrs
    obtain ⟨hok, h1, h8⟩ := rightB_iff.1 hr
    have hm := few_choices hr HMOST.out
    have HSU := Lib.hid (sure_iff (lo := lo) (hi := hi) hok)
    have HC : Hid (∀ w', Below w2.heap.size w2 w' → _) := fun w' h => narrow_yes A2 L.length c2 L lo hi w' (rL.later h) hr hsp (by omega)
    have HR : Hid (∀ w', Below w2.heap.size w2 w' → Calls Tryz.prog 8 #[.slice A2 L.length c2] w' fun e w'' => e = .returned (.bool true) ∧ Below w'.heap.size w' w'') := fun w' h => by have := rStack_any A2 L.length c2 L w' (rL.later h) (by omega); rw [hr] at this; exact this
    have HQ : Hid (∀ w', Calls Tryz.prog 9 #[.agg #[.int .i64 lo, .int .i64 hi], .int .i64 1000000] w' fun e w'' => e = .returned (.bool true) ∧ Below w'.heap.size w' w'') := fun w' => by have := rSpan_any lo hi 1000000 w' (by omega) (by omega); rw [span_same, hsp] at this; exact this
    have HG : Hid (∀ w', Below w2.heap.size w2 w' → _) := fun w' h => rGaps_any A2 L.length c2 L w' (rL.later h) hok h8
    have HW : Hid (∀ w', Calls Tryz.prog 16 #[.int .i64 0] w' fun e w'' => ∃ va vb, e = .returned (.agg #[.bool false, va, .bool false, vb]) ∧ MagD w'' va 0 ∧ MagD w'' vb 1 ∧ Below w'.heap.size w' w'') := fun w' => whole_any 0 w' (by omega)
    have HOK := Lib.hid hok
    have HRR := Lib.hid hr
    have HM := Lib.hid hm
    have HRES : Hid (narR lo hi L = if (stN (decide (lo ≤ lowL L) && decide (highL L ≤ hi)) lo hi L L.length).1 < 0 then (0, 6) else ((stN (decide (lo ≤ lowL L) && decide (highL L ≤ hi)) lo hi L L.length).1, 0)) := by show _ = _; unfold narR; rw [HSU.out]
    have hl8 := h8
    generalize lowL L = gl at *
    generalize highL L = gh at *
    generalize narR lo hi L = nr at *
    obtain ⟨nw, ne⟩ := nr
    clear hrs hr hok h1 hsp HMOST hm HSU h8 hl9
    have ckN := kN.cell
    have lkN := kN.lt
    go_wp2_with fail
    refine (HC.out _ hbf).mono ?_
    rintro e wc7 ⟨rfl, hbc⟩
    replace kN := kN.later hbc
    replace hbf := hbf.trans (hbc.mono hbf.size)
    replace hbl := hbl.trans (hbc.mono hbl.size)
    clear hbc
    clear ckN lkN
    have ckN := kN.cell
    have lkN := kN.lt
    go_wp2_with fail
    refine (HR.out _ hbf).mono ?_
    rintro e wc8 ⟨rfl, hbc⟩
    replace kN := kN.later hbc
    replace hbf := hbf.trans (hbc.mono hbf.size)
    replace hbl := hbl.trans (hbc.mono hbl.size)
    clear hbc
    clear ckN lkN
    have ckN := kN.cell
    have lkN := kN.lt
    go_wp2_with fail
    refine (HQ.out _).mono ?_
    rintro e wc9 ⟨rfl, hbc⟩
    replace kN := kN.later hbc
    replace hbf := hbf.trans (hbc.mono hbf.size)
    replace hbl := hbl.trans (hbc.mono hbl.size)
    clear hbc
    clear ckN lkN
    have ckN := kN.cell
    have lkN := kN.lt
    go_wp2_with fail
    refine (HG.out _ hbf).mono ?_
    rintro e wc10 ⟨rfl, hbc⟩
    replace kN := kN.later hbc
    replace hbf := hbf.trans (hbc.mono hbf.size)
    replace hbl := hbl.trans (hbc.mono hbl.size)
    clear hbc
    clear ckN lkN
    have hbn : Below wc10.heap.size wc10 (wc10.alloc (.cells #[.int .i64 gl, .int .i64 gh] 24)) := (Below.refl _ _).alloc (Nat.le_refl _) _
    have kG := Blk.new wc10 24 #[.int .i64 gl, .int .i64 gh]
    replace kN := kN.later hbn
    replace hbf := hbf.trans (hbn.mono hbf.size)
    replace hbl := hbl.trans (hbn.mono hbl.size)
    go_upto_region 6 with fail
    have HALL := And.intro kG (And.intro kN (And.intro hbf hbl))
    clear hbn kG kN hbf hbl HC HR HQ HG
    revert HALL
    generalize wc10.alloc (.cells #[.int .i64 gl, .int .i64 gh] 24) = wg
    generalize wc10.heap.size = gG
    intro HALL
    obtain ⟨kG, kN, hbf, hbl⟩ := HALL
    have ckN := kN.cell
    have lkN := kN.lt
    have ckG := kG.cell
    have lkG := kG.lt
    go_wp2_with fail
    refine (HW.out _).mono ?_
    rintro e w5 ⟨va0, vb0, rfl, ma0, mb0, hbc⟩
    replace kN := kN.later hbc
    replace kG := kG.later hbc
    replace hbf := hbf.trans (hbc.mono hbf.size)
    replace hbl := hbl.trans (hbc.mono hbl.size)
    clear hbc
    clear ckN lkN ckG lkG
    obtain ⟨xA, xn, xc, rfl⟩ := ma0.form
    obtain ⟨yA, yn, yc, rfl⟩ := mb0.form
    have rL5 := rL.later hbf
    have hbn : Below w5.heap.size w5 (w5.alloc (.cells #[.bool false, .slice xA xn xc, .bool false, .slice yA yn yc] 47)) := (Below.refl _ _).alloc (Nat.le_refl _) _
    have kM := Blk.new w5 47 #[.bool false, .slice xA xn xc, .bool false, .slice yA yn yc]
    replace ma0 := ma0.later hbn
    replace mb0 := mb0.later hbn
    clear rL hbf HW
    go_upto_region 7 with fail
    have HALL := And.intro kM (And.intro ma0 (And.intro mb0 hbn))
    clear hbn kM ma0 mb0
    revert HALL
    generalize w5.alloc (.cells #[.bool false, .slice xA xn xc, .bool false, .slice yA yn yc] 47) = wm
    intro HALL
    obtain ⟨kM, ma0, mb0, hbf⟩ := HALL
    have HS0 := Lib.hid (LawS.zero lo hi L 0 1)
    go_wp2_with fail
    go_loopw [9, 11] (fun bb ii wr => ∃ (k : Nat) (bv : Int) (xA : Option Addr) (xn xc : Nat) (yA : Option Addr) (yn yc : Nat) (a b : Nat), k ≤ L.length ∧ ii = .int .i64 k ∧ bb = .int .i64 bv ∧ Hid (LawS (narS lo hi L k) bv a b) ∧ Blk wr w5.heap.size 47 #[.bool false, .slice xA xn xc, .bool false, .slice yA yn yc] ∧ MagD wr (.slice xA xn xc) a ∧ MagD wr (.slice yA yn yc) b ∧ Below w5.heap.size w5 wr) (fun _ i _ => L.length - (RowKit.intOf i).toNat)
    case atStart => exact ⟨0, -1, _, _, _, _, _, _, 0, 1, Nat.zero_le _, rfl, rfl, HS0.out, kM, ma0, mb0, hbf⟩
    case round =>
      clear HS0 kM ma0 mb0 hbf
      obtain ⟨k, bv, xA, xn, xc, yA, yn, yc, a, b, hk, rfl, rfl, hS, kM, ma, mb, hbf⟩ := hrel
      replace kN := kN.later hbf
      replace kG := kG.later hbf
      replace rL5 := rL5.later hbf
      have hbv := hS.out.sign HRR.out HM.out
      by_cases hlt : k < L.length
      · obtain ⟨g, p, rfl, hg, hlk, hp1, hp2, hp3⟩ := rL5.at_ hlt
        have hkn : (k : Int) < (L.length : Int) := by omega
        have hkn2 : decide ((k : Int) < (L.length : Int)) = true := decide_eq_true hkn
        have HLK := Lib.hid hlk
        have HPO := Lib.hid (HOK.out p (List.mem_of_getElem? hlk))
        clear hlk
        by_cases hp : p.lo = p.hi
        · have hpe : (p.hi == p.lo) = true := by simp [hp]
          have hS2 := Lib.hid (hS.out.skip HLK.out hp)
          clear hp hS
          go_wp2_with fail
          go_region
          go_wp2_with fail
          go_roundw
          case rel => exact ⟨k + 1, bv, _, _, _, _, _, _, a, b, by omega, by go_num, rfl, hS2.out, kM.drew, ma.later ((Below.refl _ _).drew), mb.later ((Below.refl _ _).drew), hbf.drew⟩
          case measure => simp [RowKit.intOf]; omega
        · have hpe : (p.hi == p.lo) = false := by simp; omega
          have HPN := Lib.hid hp
          have hbd : Below wr.heap.size wr wr.drew := (Below.refl _ _).drew
          have HY := Lib.hid (parts_copy g c2 L wr.drew (rL5.later hbd) (by omega) hcap (by omega))
          have HX := Lib.hid (And.intro kM.drew (And.intro (kN.later hbd) (And.intro (kG.later hbd) (And.intro (ma.later hbd) (And.intro (mb.later hbd) hbf.drew)))))
          clear hp hbd kM kN kG ma mb hbf rL5
          go_wp2_with fail
          go_region
          clear hp1 hp2 hp3 hg
          go_wp2_with fail
          refine HY.out.mono ?_
          rintro e w7 ⟨R, c', rfl, hR, hcR, cb, hbc⟩
          obtain ⟨_, hc2, _⟩ := pcells_at HLK.out
          have cR := cb.at_ hc2
          have fR := cb.frozen
          have lR := cb.lt
          obtain ⟨po1, po2, po3, po4⟩ := HPO.out
          obtain ⟨kM, kN, kG, ma, mb, hbf⟩ := HX.out
          have hb5 := hbc.setCell (p := ⟨R, k * 3 + 1, none⟩) hR (.int .i64 (p.hi - 1))
          have cb5 := cb.slim HLK.out
          replace HX := Lib.hid (And.intro cb5 (And.intro (kM.later hb5) (And.intro (kN.later hb5) (And.intro (kG.later hb5) (And.intro (ma.later hb5) (And.intro (mb.later hb5) (hbf.trans (hb5.mono hbf.size))))))))
          clear HY kM kN kG ma mb hbf hbc cb hR hc2 hb5 cb5
          go_upto_region 13 with fail
          revert HX
          generalize w7.setCell ⟨R, k * 3 + 1, none⟩ (.int .i64 (p.hi - 1)) = w8
          intro HX
          obtain ⟨cb, kM, kN, kG, ma, mb, hbf⟩ := HX.out
          have rS := parts_of_cb cb
          rw [slimL_len] at rS
          have hokS := slimL_ok HOK.out HLK.out HPN.out
          have HT := Lib.hid (rCount_any lo hi (slimL L k) (some ⟨R, 0, none⟩) L.length c' 0 w8 rS.partsA hokS hl8 hcR (by omega) (by omega))
          rw [cnt_all] at HT
          have HCH : Hid (∀ V, Below w8.heap.size w8 V → _) := fun V h => rChoices_any (some ⟨R, 0, none⟩) L.length c' (slimL L k) V (rS.later h) hokS hl8
          obtain ⟨hl1, hl2⟩ := slim_len HRR.out HLK.out HPN.out HM.out
          have hg1 := goodN_le lo hi (gapsL (slimL L k))
          have HT1 : Hid (bv < 0 → _) := fun h => hS.out.first HLK.out HPN.out h
          have HT2 : Hid (0 ≤ bv → _) := fun h => hS.out.more HLK.out HPN.out h
          have HT3 : Hid (0 ≤ bv → _) := fun h => hS.out.less HLK.out HPN.out h
          generalize goodN lo hi (gapsL (slimL L k)) = gd at *
          generalize (gapsL (slimL L k)).length = ln at *
          have HI1 : Hid (∀ V, Calls Tryz.prog 19 #[.int .i64 (gd : Int)] V (ZR V false gd)) := fun V => int_any gd V (by omega)
          have HI2 : Hid (∀ V, Calls Tryz.prog 19 #[.int .i64 (ln : Int)] V (ZR V false ln)) := fun V => int_any ln V (by omega)
          have cN := kN.cell
          have lN := kN.lt
          have hbs := Below.refl w8.heap.size w8
          clear HX cb rS hokS cR fR lR hl1
          go_wp2_with fail
          refine HT.out.mono ?_
          rintro e v1 ⟨rfl, hbc⟩
          replace hbs := hbs.trans (hbc.mono hbs.size)
          clear hbc HT cN lN
          go_wp2_with fail
          refine (HI1.out _).mono ?_
          rintro e v2 ⟨va, rfl, mc, hbc⟩
          obtain ⟨cA, cn, cc, rfl⟩ := mc.form
          replace hbs := hbs.trans (hbc.mono hbs.size)
          clear hbc HI1
          go_wp2_with fail
          refine (HCH.out _ hbs).mono ?_
          rintro e v3 ⟨rfl, hbc⟩
          replace hbs := hbs.trans (hbc.mono hbs.size)
          replace mc := mc.later hbc
          clear hbc HCH
          go_wp2_with fail
          refine (HI2.out _).mono ?_
          rintro e v4 ⟨vb, rfl, md, hbc⟩
          obtain ⟨dA, dn, dc, rfl⟩ := md.form
          replace hbs := hbs.trans (hbc.mono hbs.size)
          replace mc := mc.later hbc
          have HO := Lib.hid (over_any cA dA cn dn cc dc v4)
          clear hbc HI2
          go_wp2_with fail
          refine HO.out.mono ?_
          rintro e v5 ⟨rfl, hbc⟩
          replace hbs := hbs.trans (hbc.mono hbs.size)
          replace mc := mc.later hbc
          replace md := md.later hbc
          have hbn : Below v5.heap.size v5 (v5.alloc (.cells #[.bool false, .slice cA cn cc, .bool false, .slice dA dn dc] 47)) := (Below.refl _ _).alloc (Nat.le_refl _) _
          have kQ := Blk.new v5 47 #[.bool false, .slice cA cn cc, .bool false, .slice dA dn dc]
          have hbe := hbs.trans (hbn.mono hbs.size)
          have HX := And.intro kQ (And.intro (kM.later hbe) (And.intro (ma.later hbe) (And.intro (mb.later hbe) (And.intro (mc.later hbn) (And.intro (md.later hbn) (hbf.trans (hbe.mono hbf.size)))))))
          clear kQ kM kN kG ma mb mc md hbf hbc hbn hbs hbe HO
          go_upto_region 14 with fail
          revert HX
          generalize v5.alloc (.cells #[.bool false, .slice cA cn cc, .bool false, .slice dA dn dc] 47) = v6
          generalize v5.heap.size = gQ
          intro HX
          obtain ⟨kQ, kM, ma, mb, mc, md, hbf⟩ := HX
          have cM := kM.cell
          have fM := kM.frozen
          have lM := kM.lt
          have cQ := kQ.cell
          have lQ := kQ.lt
          rcases hbv with hw | ⟨hw, hw2, hw3⟩
          · subst hw
            have HTT := Lib.hid (HT1.out (by omega))
            clear HT1 HT2 HT3
            go_wp2_with fail
            go_region
            have HS4 := Lib.hid (store4 kM mc md hbf _ rfl)
            clear kQ kM ma mb mc md hbf cM fM lM cQ lQ
            go_wp2_with fail
            go_roundw
            case rel => exact ⟨k + 1, k, cA, cn, cc, dA, dn, dc, gd, ln, by omega, by go_num, rfl, HTT.out, HS4.out.1, HS4.out.2.1, HS4.out.2.2.1, HS4.out.2.2.2⟩
            case measure => simp [RowKit.intOf]; omega
          · have hd : decide (bv < 0) = false := decide_eq_false (by omega)
            have HG : Hid (∀ V, Below v6.heap.size v6 V → _) := fun V h => cmpQ_any (.slice cA cn cc) (.slice dA dn dc) (.slice xA xn xc) (.slice yA yn yc) gd ln a b V (mc.later h) (md.later h) (ma.later h) (mb.later h) (by omega) (by omega) hw2 hw3
            have HT2' := Lib.hid (HT2.out hw)
            have HT3' := Lib.hid (HT3.out hw)
            have hbs := Below.refl v6.heap.size v6
            clear HT1 HT2 HT3
            generalize cmpN (gd * b) (a * ln) = cv at *
            by_cases hc : 0 < cv
            · have hd3 : decide (cv > 0) = true := decide_eq_true hc
              have HTT := Lib.hid (HT2'.out hc)
              clear HT2' HT3'
              go_wp2_with fail
              refine (HG.out _ hbs).mono ?_
              rintro e v9 ⟨rfl, hbc⟩
              replace kQ := kQ.later hbc
              replace kM := kM.later hbc
              replace mc := mc.later hbc
              replace md := md.later hbc
              replace hbf := hbf.trans (hbc.mono hbf.size)
              clear hbc hbs HG ma mb cM fM lM cQ lQ
              have cM := kM.cell
              have fM := kM.frozen
              have lM := kM.lt
              have cQ := kQ.cell
              have lQ := kQ.lt
              go_wp2_with fail
              go_region
              have HS4 := Lib.hid (store4 kM mc md hbf _ rfl)
              clear kQ kM mc md hbf cM fM lM cQ lQ
              go_wp2_with fail
              go_roundw
              case rel => exact ⟨k + 1, k, cA, cn, cc, dA, dn, dc, gd, ln, by omega, by go_num, rfl, HTT.out, HS4.out.1, HS4.out.2.1, HS4.out.2.2.1, HS4.out.2.2.2⟩
              case measure => simp [RowKit.intOf]; omega
            · have hd3 : decide (cv > 0) = false := decide_eq_false hc
              have HTT := Lib.hid (HT3'.out (by omega))
              clear HT2' HT3'
              go_wp2_with fail
              refine (HG.out _ hbs).mono ?_
              rintro e v9 ⟨rfl, hbc⟩
              replace kM := kM.later hbc
              replace ma := ma.later hbc
              replace mb := mb.later hbc
              replace hbf := hbf.trans (hbc.mono hbf.size)
              clear hbc hbs HG mc md cM fM lM cQ lQ kQ
              go_wp2_with fail
              go_roundw
              case rel => exact ⟨k + 1, bv, xA, xn, xc, yA, yn, yc, a, b, by omega, by go_num, rfl, HTT.out, kM, ma, mb, hbf⟩
              case measure => simp [RowKit.intOf]; omega
      · have hke : k = L.length := by omega
        subst hke
        have hkn2 : decide ((L.length : Int) < (L.length : Int)) = false := decide_eq_false (by omega)
        replace hbl := hbl.trans (hbf.mono hbl.size)
        have hS1 := Lib.hid hS.out.1
        clear hS kM ma mb rL5 hbf hlt hk
        by_cases hs1 : lo ≤ gl
        · have ds1 : decide (lo ≤ gl) = true := decide_eq_true hs1
          by_cases hs2 : gh ≤ hi
          · have ds2 : decide (gh ≤ hi) = true := decide_eq_true hs2
            obtain ⟨rfl, rfl⟩ : nw = 0 ∧ ne = 6 := by have h := HRES.out; rw [ds1, ds2] at h; exact Prod.mk.inj h
            clear HRES hS1 hs1 hs2
            have ckN := kN.cell
            have lkN := kN.lt
            have ckG := kG.cell
            have lkG := kG.lt
            go_wp2_with fail
            refine (lives_any _).mono ?_
            rintro e wc14 ⟨rfl, hbc⟩
            replace kN := kN.later hbc
            replace kG := kG.later hbc
            replace hbl := hbl.trans (hbc.mono hbl.size)
            clear hbc
            clear ckN lkN ckG lkG
            have ckN := kN.cell
            have lkN := kN.lt
            have ckG := kG.cell
            have lkG := kG.lt
            go_wp2_with fail
            go_ret
            exact ⟨rfl, hbl⟩
          · have ds2 : decide (gh ≤ hi) = false := decide_eq_false hs2
            have HCONJ : Hid ((decide (lo ≤ gl) && decide (gh ≤ hi)) = false) := by show _ = _; rw [ds2, Bool.and_false]
            clear hs1 hs2
            have HR2 : Hid ((nw, ne) = if (narS lo hi L L.length).1 < 0 then (0, 6) else ((narS lo hi L L.length).1, 0)) := by
              have h := HRES.out
              rw [HCONJ.out] at h
              exact h
            rw [← hS1.out] at HR2
            clear HRES HCONJ hS1
            by_cases hw : bv < 0
            · have dw : decide (bv < 0) = true := decide_eq_true hw
              obtain ⟨rfl, rfl⟩ : nw = 0 ∧ ne = 6 := by have h := HR2.out; rw [if_pos hw] at h; exact Prod.mk.inj h
              clear HR2 hw
              have ckN := kN.cell
              have lkN := kN.lt
              have ckG := kG.cell
              have lkG := kG.lt
              go_wp2_with fail
              refine (lives_any _).mono ?_
              rintro e wc12 ⟨rfl, hbc⟩
              replace kN := kN.later hbc
              replace kG := kG.later hbc
              replace hbl := hbl.trans (hbc.mono hbl.size)
              clear hbc
              clear ckN lkN ckG lkG
              have ckN := kN.cell
              have lkN := kN.lt
              have ckG := kG.cell
              have lkG := kG.lt
              go_wp2_with fail
              go_ret
              exact ⟨rfl, hbl⟩
            · have dw : decide (bv < 0) = false := decide_eq_false hw
              obtain ⟨rfl, rfl⟩ : nw = bv ∧ ne = 0 := by have h := HR2.out; rw [if_neg hw] at h; exact Prod.mk.inj h
              clear HR2 hw
              have ckN := kN.cell
              have lkN := kN.lt
              have ckG := kG.cell
              have lkG := kG.lt
              go_wp2_with fail
              refine (lives_any _).mono ?_
              rintro e wc13 ⟨rfl, hbc⟩
              replace kN := kN.later hbc
              replace kG := kG.later hbc
              replace hbl := hbl.trans (hbc.mono hbl.size)
              clear hbc
              clear ckN lkN ckG lkG
              have ckN := kN.cell
              have lkN := kN.lt
              have ckG := kG.cell
              have lkG := kG.lt
              go_wp2_with fail
              go_ret
              exact ⟨rfl, hbl⟩
        · have ds1 : decide (lo ≤ gl) = false := decide_eq_false hs1
          have HCONJ : Hid ((decide (lo ≤ gl) && decide (gh ≤ hi)) = false) := by show _ = _; rw [ds1, Bool.false_and]
          clear hs1
          have HR2 : Hid ((nw, ne) = if (narS lo hi L L.length).1 < 0 then (0, 6) else ((narS lo hi L L.length).1, 0)) := by
            have h := HRES.out
            rw [HCONJ.out] at h
            exact h
          rw [← hS1.out] at HR2
          clear HRES HCONJ hS1
          by_cases hw : bv < 0
          · have dw : decide (bv < 0) = true := decide_eq_true hw
            obtain ⟨rfl, rfl⟩ : nw = 0 ∧ ne = 6 := by have h := HR2.out; rw [if_pos hw] at h; exact Prod.mk.inj h
            clear HR2 hw
            have ckN := kN.cell
            have lkN := kN.lt
            have ckG := kG.cell
            have lkG := kG.lt
            go_wp2_with fail
            refine (lives_any _).mono ?_
            rintro e wc12 ⟨rfl, hbc⟩
            replace kN := kN.later hbc
            replace kG := kG.later hbc
            replace hbl := hbl.trans (hbc.mono hbl.size)
            clear hbc
            clear ckN lkN ckG lkG
            have ckN := kN.cell
            have lkN := kN.lt
            have ckG := kG.cell
            have lkG := kG.lt
            go_wp2_with fail
            go_ret
            exact ⟨rfl, hbl⟩
          · have dw : decide (bv < 0) = false := decide_eq_false hw
            obtain ⟨rfl, rfl⟩ : nw = bv ∧ ne = 0 := by have h := HR2.out; rw [if_neg hw] at h; exact Prod.mk.inj h
            clear HR2 hw
            have ckN := kN.cell
            have lkN := kN.lt
            have ckG := kG.cell
            have lkG := kG.lt
            go_wp2_with fail
            refine (lives_any _).mono ?_
            rintro e wc13 ⟨rfl, hbc⟩
            replace kN := kN.later hbc
            replace kG := kG.later hbc
            replace hbl := hbl.trans (hbc.mono hbl.size)
            clear hbc
            clear ckN lkN ckG lkG
            have ckN := kN.cell
            have lkN := kN.lt
            have ckG := kG.cell
            have lkG := kG.lt
            go_wp2_with fail
            go_ret
            exact ⟨rfl, hbl⟩
end Go.Proofs.YtpklcjbdmikbdaaGreat.fitNarrows
namespace Go.Proofs.YtpklcjbdmikbdaaGreat.fitNarrows
open Go.ChangeShapes Go.WideShapes Go.ChangeAt Go.RowKit

set_option maxHeartbeats 2000000 in
set_option maxHeartbeats 4000000 in
set_option maxRecDepth 100000 in
theorem lifted (os : Os) (started : os.Started) (H : Type) (enc : TypeId × Value → H) :
    ReturnsInHanded {} Tryz.checked os 4 .any (Rows.fitNarrowsSpec.pre6 enc Tryz.prog Tryz.f4 Rows.fitNarrowsRow.domain false) (Rows.fitNarrowsSpec.post enc Tryz.prog Tryz.f4 false true false false) := by
  refine returnsInHanded_of_change (C := Tryz.checked) Tryz.own started (by kernel_rfl) Tryz.func4
    (ChangeSpec.witness6 (enc := enc) (C := Tryz.checked) false ⟨#[], #[.slice none 0 0, .agg #[.int .i64 0, .int .i64 0]], []⟩ 8 (by kernel_rfl) (by kernel_rfl) (by kernel_rfl) (by kernel_rfl)) ?_
  intro W base args ds gs before hval0 hW hcnd _
  have hval : ∀ (j : Nat) t v, Tryz.f4.params[j]? = some t → args[j]? = some v → Value.okWide Tryz.prog W .any base t v := hval0
  have hW' := hW
  obtain ⟨p, q, hA0, hV, rfl, hfz, hnd⟩ := hW
  have hA : DataW.TrodAll enc Tryz.prog W 0 (fun _ => true) true Tryz.f4.params.toList args.toList ds p := hA0
  rw [Tryz.params4] at hA hval
  obtain ⟨v0, vs0, d0, ds0, p0, q0, hargs, rfl, rfl, h0, r0⟩ := trodAll_cons hA
  obtain ⟨v1, vs1, d1, ds1, p1, q1, rfl, rfl, rfl, h1, r1⟩ := trodAll_cons r0
  obtain ⟨rfl, rfl, rfl⟩ := trodAll_nil r1
  obtain rfl : args = #[v0, v1] := by cases args; simp_all
  obtain ⟨rfl, rfl⟩ := trodVars_none hV
  obtain ⟨A0, n0, c0, l0, rfl, x0, y0, u0⟩ := open_R (hval 0 22 v0 rfl rfl) h0
  obtain ⟨a1, b1, rfl⟩ := open_G (hval 1 24 v1 rfl rfl) h1
  refine (walk A0 n0 c0 a1 b1 l0 W x0 y0 u0).mono fun e W' ⟨he, hb⟩ => ?_
  exact ⟨_, he, law_post rfl (by kernel_rfl) (by kernel_rfl) hW' rfl rfl rfl hb⟩

set_option maxHeartbeats 4000000 in
set_option maxRecDepth 100000 in
theorem facts : joinedFacts Tryz.prog 4 Tryz.f4 Rows.fitNarrowsSpec Rows.fitNarrowsRow = true := by
  unfold joinedFacts
  repeat' (with_reducible refine and_t ?_ ?_)
  all_goals first
    | with_reducible exact Tryz.enters
    | (rw [Tryz.finals]; as_aux_lemma => kernel_rfl)
    | (rw [Tryz.made]; as_aux_lemma => kernel_rfl)
    | (as_aux_lemma => kernel_rfl)

theorem proved : Rows.FitNarrowsSaid :=
  OpenClaim.holds_of_wide 4 Tryz.f4 rfl rfl rfl rfl rfl rfl rfl ⟨rfl, rfl, rfl, rfl, rfl⟩ rfl rfl rfl rfl rfl (by as_aux_lemma => kernel_rfl) Tryz.func4 facts
    (of_decide_eq_true (by as_aux_lemma => kernel_rfl)) (by unfold Func.isWrapper; rw [if_neg (of_decide_eq_false (by kernel_rfl))]; exact ⟨rfl, rfl⟩)
    (fun os started H enc _ => lifted os started H enc)
#print axioms proved
end Go.Proofs.YtpklcjbdmikbdaaGreat.fitNarrows
