/-
  Contracts of Play of package dial.
  Conditions: the slice that comes in starts at the head of a block.
-/
import Derived.Test.YtjlnkghjiaglmaaPlay
import Derived.Deep.RegionHeld3
namespace Go.Proofs.Ytjlnkghjiaglmaa
open Go.RowKit

/-- What a chronograph is behind some pushes, up to a time. -/
def played (at_ : Int) (c : Ch) : List (Int × Int) → Ch
  | [] => c
  | x :: l => played at_ (if x.1 ≤ at_ then c.push x.1 x.2 else c) l
theorem played_step {at_ t b : Int} {c : Ch} {l : List (Int × Int)} {k : Nat} (h : l[k]? = some (t, b)) :
    played at_ c (l.drop k) = played at_ (if t ≤ at_ then c.push t b else c) (l.drop (k + 1)) := by
  have hk : k < l.length := (List.getElem?_eq_some_iff.1 h).1
  have e : l[k] = (t, b) := (List.getElem?_eq_some_iff.1 h).2
  rw [List.drop_eq_getElem_cons hk, played, e]

/-- What a chronograph shows, as the machine holds it. -/
abbrev K4 (r h : Bool) (m p : Int) : Value := .agg #[.bool r, .bool h, .int .i64 m, .int .i64 p]

set_option maxHeartbeats 400000 in
theorem Play_no (A : Option Addr) (n cap : Nat) (l : List (Int × Int)) (at_ : Int) (w : World) (hr : Row2 w A n l) (hn : n ≤ 140737488351232)
    (hv : ¬ ((ordL 0 l && decide (n ≤ 1000)) = true ∧ 0 ≤ at_ ∧ at_ ≤ 1000000000)) :
    Calls Try.prog 30 #[.slice A n cap, .int .i64 at_] w fun e w' => e = .returned (.tuple #[K4 false false 0 0, .int .i64 1]) ∧ Below w.heap.size w w' := by
  obtain ⟨V, hV⟩ : ∃ V, V = (ordL 0 l && decide (n ≤ 1000)) := ⟨_, rfl⟩
  have HV := Lib.hid hV
  rw [← hV] at hv
  clear hV
  have hr1 := hr.later ((Below.refl w.heap.size w).alloc (Nat.le_refl _) (.cells #[.bool false, .bool false, .int .i64 0, .int .i64 0] 38))
  have hcase : V = false ∨ (V = true ∧ at_ < 0) ∨ (V = true ∧ 0 ≤ at_ ∧ 1000000000 < at_) := by
    cases V
    · exact .inl rfl
    · by_cases h1 : 0 ≤ at_
      · right; right; exact ⟨rfl, h1, by simp only [true_and] at hv; omega⟩
      · right; left; exact ⟨rfl, by omega⟩
  clear hv
  rcases hcase with rfl | ⟨rfl, h2⟩ | ⟨rfl, h2, h3⟩
  all_goals
    go_enter Try.func30, Try.ntmps30
    go_wp2_with (go_at_call 65; refine (pushes_any A n cap l _ hr1 hn).mono ?_; rw [← HV.out]; rintro e w1 ⟨rfl, hb1⟩; have hR := (Blk.new w 38 #[.bool false, .bool false, .int .i64 0, .int .i64 0]).later hb1; have hRc := hR.cell; have hRf := hR.frozen)
    refine bodyPost_cell w.heap.size 38 #[.bool false, .bool false, .int .i64 0, .int .i64 0] (.tuple #[K4 false false 0 0, .int .i64 1]) ?_ ?_ ⟨rfl, ?_⟩
    · exact (((hR.set_ 0 _).set_ 1 _).set_ 2 _).set_ 3 _
    · intro W' hW'
      simp [results, Try.results30, go_sem, hW']
    · exact (((((((Below.refl _ _).alloc (Nat.le_refl _) _).trans (hb1.mono (by simp)))).setCell (by simp) _).setCell (by simp) _).setCell (by simp) _).setCell (by simp) _

/-- What a chronograph shows at a time. -/
def shownV (c : Ch) (t : Int) : Value := K4 c.r c.h (c.now t) (if c.h = true then c.p else c.now t)

theorem at_any (g : Nat) (c : Ch) (t u : Int) (w : World) (hB : Blk w g 85 c.cells) (hf : c.fine u) (hu : u ≤ 1000000000) (h0 : 0 ≤ t) (ht : t ≤ 1000000000) :
    Calls Try.prog 67 #[.pointer (some ⟨g, 0, none⟩), .int .i64 t] w fun e w' => e = .returned (.int .i64 (c.now t)) ∧ Below w.heap.size w w' := by
  obtain ⟨f1, f2, f3, f4, f5⟩ := hf
  obtain ⟨r, h, s, m, p⟩ := c
  simp only at f1 f2 f3 f4 f5
  cases r
  · exact at_stands g h s m p t w hB
  · exact at_runs g h s m p t w hB (by omega) (by omega) (by omega)

theorem forget {F G : World → Prop} {W0 : World} (h : F W0) (k : ∀ W, F W → G W) : G W0 := k W0 h

/-- What holds throughout Play's last region. -/
def PS (wr : World) (g R : Nat) (c : Ch) (w' : World) : Prop :=
  w'.cell? ⟨g, 0, none⟩ = some (.bool c.r) ∧ w'.cell? ⟨g, 1, none⟩ = some (.bool c.h) ∧ Blk w' g 85 c.cells ∧ Blk w' R 38 #[.bool false, .bool false, .int .i64 0, .int .i64 0] ∧ Below wr.heap.size wr w' ∧ g < wr.heap.size ∧ R < wr.heap.size
theorem PS_of {wr w' : World} {g R : Nat} {c : Ch} (h1 : Blk w' g 85 c.cells) (h2 : Blk w' R 38 #[.bool false, .bool false, .int .i64 0, .int .i64 0]) (h3 : Below wr.heap.size wr w') (h4 : g < wr.heap.size) (h5 : R < wr.heap.size) : PS wr g R c w' :=
  ⟨h1.cell 0, h1.cell 1, h1, h2, h3, h4, h5⟩
theorem PS_call {wr W w3 : World} {g R : Nat} {c : Ch} (h : PS wr g R c W) (hb : Below W.heap.size W w3) : PS wr g R c w3 :=
  PS_of (h.2.2.1.later hb) (h.2.2.2.1.later hb) (h.2.2.2.2.1.trans (hb.mono h.2.2.2.2.1.size)) h.2.2.2.2.2.1 h.2.2.2.2.2.2
theorem PS_alloc {wr W : World} {g R : Nat} {c : Ch} (h : PS wr g R c W) (o : Obj) : PS wr g R c (W.alloc o) :=
  PS_call h ((Below.refl _ _).alloc (Nat.le_refl _) _)
theorem PS_drew {wr W : World} {g R : Nat} {c : Ch} (h : PS wr g R c W) : PS wr g R c W.drew :=
  PS_call h ((Below.refl _ _).drew)
theorem PS_set {wr W : World} {g R : Nat} {c : Ch} (h : PS wr g R c W) {p : Addr} (hp : wr.heap.size ≤ p.block) (u : Value) : PS wr g R c (W.setCell p u) :=
  PS_of (h.2.2.1.far (by have := h.2.2.2.2.2.1; omega) u) (h.2.2.2.1.far (by have := h.2.2.2.2.2.2; omega) u) (h.2.2.2.2.1.setCell hp u) h.2.2.2.2.2.1 h.2.2.2.2.2.2

set_option maxHeartbeats 1000000 in
theorem Play_yes (A : Option Addr) (n cap : Nat) (l : List (Int × Int)) (at_ : Int) (w : World) (hr : Row2 w A n l) (hn : n ≤ 1000)
    (hv : ordL 0 l = true) (h1 : 0 ≤ at_) (h2 : at_ ≤ 1000000000) :
    Calls Try.prog 30 #[.slice A n cap, .int .i64 at_] w fun e w' => e = .returned (.tuple #[shownV (played at_ Ch.zero l) at_, .int .i64 0]) ∧ Below w.heap.size w w' := by
  have HV := Lib.hid (show (ordL 0 l && decide (n ≤ 1000)) = true by rw [hv]; simpa using hn)
  have HO := Lib.hid hv
  clear hv
  have hr1 := hr.later ((Below.refl w.heap.size w).alloc (Nat.le_refl _) (.cells #[.bool false, .bool false, .int .i64 0, .int .i64 0] 38))
  go_enter Try.func30, Try.ntmps30
  go_wp2_with (go_at_call 65; refine (pushes_any A n cap l _ hr1 (by omega)).mono ?_; rw [HV.out]; rintro e w1 ⟨rfl, hb1⟩; have hR := (Blk.new w 38 #[.bool false, .bool false, .int .i64 0, .int .i64 0]).later hb1)
  have hB1 : Below w.heap.size w w1 := ((Below.refl _ _).alloc (Nat.le_refl _) _).trans (hb1.mono (by simp))
  have hz1 := hR.lt
  go_loopw [26] (fun i wr => ∃ (k : Nat) (c : Ch) (u : Int), k ≤ n ∧ i = .int .i64 k ∧ 0 ≤ u ∧ u ≤ 1000000000 ∧ c.fine u ∧ Hid (ordL u (l.drop k) = true) ∧ Hid (played at_ Ch.zero l = played at_ c (l.drop k)) ∧
      Below w.heap.size w wr ∧ Blk wr w1.heap.size 85 c.cells ∧ Blk wr w.heap.size 38 #[.bool false, .bool false, .int .i64 0, .int .i64 0]) (fun i _ => n - (intOf i).toNat)
  case atStart => exact ⟨0, Ch.zero, 0, Nat.zero_le _, rfl, Int.le_refl _, by omega, Ch.fine_zero, HO, rfl, hB1.alloc (by omega) _, Blk.new w1 85 _, hR.alloc _⟩
  case round =>
    obtain ⟨k, c, u, hk, rfl, hu0, hu1, hfi, hO, hP, hBr, hC, hRr⟩ := hrel
    have hz2 := hC.lt
    have hz3 := hRr.lt
    by_cases hlt : k < n
    · obtain ⟨g, t, b, rfl, hg, hx, hc1, hc2⟩ := (hr.later hBr).at_ hlt
      have hO2 := hO.out
      rw [ordL_step hx, Bool.and_eq_true, decide_eq_true_eq] at hO2
      obtain ⟨⟨b1, b3, ut, t9⟩, hO3⟩ := hO2
      have HO3 := Lib.hid hO3
      have hX := Lib.hid hx
      clear hx hO3
      have hCa := hC.alloc (.cells #[.int .i64 t, .int .i64 b] 36)
      have hRa := hRr.alloc (.cells #[.int .i64 t, .int .i64 b] 36)
      by_cases hat : t ≤ at_
      · go_wp2_with (go_at_call 66; refine (push_any _ c t b u _ hCa hfi ut hu0 t9 b1 b3).mono ?_; rintro e w2 ⟨rfl, hC2, hg2⟩)
        go_roundw
        case rel =>
          refine ⟨k + 1, c.push t b, t, by omega, by go_num, by omega, t9, Ch.fine_push b hfi ut, HO3, ?_, ?_, hC2, hRa.grown hg2 (by simp; omega)⟩
          · show _ = _
            rw [hP.out, played_step hX.out, if_pos hat]
          · exact (hBr.alloc (by omega) _).trans (below_of_only hg2 (by omega) (by simp; omega))
        case measure => simp [intOf]; omega
      · go_wp2_with fail
        go_roundw
        case rel =>
          refine ⟨k + 1, c, t, by omega, by go_num, by omega, t9, Ch.fine_mono hfi ut, HO3, ?_, hBr.alloc (by omega) _, hCa, hRa⟩
          show _ = _
          rw [hP.out, played_step hX.out, if_neg hat]
        case measure => simp [intOf]; omega
    · have hkn : l.drop k = [] := List.drop_of_length_le (by rw [hr.1]; omega)
      have HP : Hid (played at_ Ch.zero l = c) := by show _ = _; rw [hP.out, hkn]; rfl
      clear hkn hO hP
      go_wp2_with fail
      have hHeld0 : PS wr w1.heap.size w.heap.size c wr := PS_of hC hRr (Below.refl _ _) hz2 hz3
      refine wp_region_held_drew (S := fun w' => w'.cell? ⟨w1.heap.size, 0, none⟩ = some (.bool c.r) ∧ w'.cell? ⟨w1.heap.size, 1, none⟩ = some (.bool c.h) ∧ Blk w' w1.heap.size 85 c.cells ∧ Blk w' w.heap.size 38 #[.bool false, .bool false, .int .i64 0, .int .i64 0] ∧
          Below wr.heap.size wr w' ∧ w1.heap.size < wr.heap.size ∧ w.heap.size < wr.heap.size) (by kernel_rfl) (PS_of hC.drew hRr.drew ((Below.refl _ _).drew) hz2 hz3) (fun hHeld => ?_)
      refine wpAnyH_take (i := 0) (v := ?_) rfl (by kernel_rfl) (by kernel_rfl) (by kernel_rfl) (fun _ _ _ h => h) (Or.inl ⟨by rfl, ?hy⟩) (by assumption) ?_
      case hy => (intro w hSw; (try dsimp only at hSw); go_simp; try with_reducible rfl)
      refine wpAnyH_take (i := 1) (v := ?_) rfl (by kernel_rfl) (by kernel_rfl) (by kernel_rfl) (fun _ _ _ h => h) (Or.inl ⟨by rfl, ?hy⟩) (by assumption) ?_
      case hy => (intro w hSw; (try dsimp only at hSw); go_simp; try with_reducible rfl)
      refine wpAnyH_take (i := 2) (v := ?_) rfl (by kernel_rfl) (by kernel_rfl) (by kernel_rfl) (fun _ _ _ h => h) (Or.inl ⟨by rfl, ?hy⟩) (by assumption) ?_
      case hy => (intro w hSw; (try dsimp only at hSw); go_simp; try with_reducible rfl)
      refine wpAnyH_take (i := 3) (v := ?_) rfl (by kernel_rfl) (by kernel_rfl) (by kernel_rfl) (fun _ _ _ h => h) (Or.inl ⟨by rfl, ?hy⟩) (by assumption) ?_
      case hy => (intro w hSw; (try dsimp only at hSw); go_simp; try with_reducible rfl)
      refine wpAnyH_take (i := 4) (v := ?_) rfl (by kernel_rfl) (by kernel_rfl) (by kernel_rfl) (fun _ _ _ h => h) (Or.inl ⟨by rfl, ?hy⟩) (by assumption) ?_
      case hy => (intro w hSw; (try dsimp only at hSw); go_simp; try with_reducible rfl)
      refine wpAnyH_take (i := 5) (v := ?_) rfl (by kernel_rfl) (by kernel_rfl) (by kernel_rfl) (fun _ _ _ h => h) (Or.inl ⟨by rfl, ?hy⟩) (by assumption) ?_
      case hy => (intro w hSw; (try dsimp only at hSw); go_simp; try with_reducible rfl)
      refine wpAnyH_take (i := 6) (v := ?_) rfl (by kernel_rfl) (by kernel_rfl) (by kernel_rfl) (fun _ _ _ h => h) (Or.inl ⟨by rfl, ?hy⟩) (by assumption) ?_
      case hy => (intro w hSw; (try dsimp only at hSw); go_simp; try with_reducible rfl)
      refine wpAnyH_take (i := 7) (v := ?_) rfl (by kernel_rfl) (by kernel_rfl) (by kernel_rfl) (fun _ _ _ h => h) (Or.inl ⟨by rfl, ?hy⟩) (by assumption) ?_
      case hy => (intro w hSw; (try dsimp only at hSw); go_simp; try with_reducible rfl)
      refine wpAnyH_take (i := 8) (v := ?_) rfl (by kernel_rfl) (by kernel_rfl) (by kernel_rfl) (fun _ _ _ h => h) (Or.inl ⟨by rfl, ?hy⟩) (by assumption) ?_
      case hy => (intro w hSw; (try dsimp only at hSw); go_simp; try with_reducible rfl)
      refine wpAnyH_take (i := 9) (v := ?_) rfl (by kernel_rfl) (by kernel_rfl) (by kernel_rfl) (fun _ _ _ h => h) (Or.inl ⟨by rfl, ?hy⟩) (by assumption) ?_
      case hy => (intro w hSw; (try dsimp only at hSw); go_simp; try with_reducible rfl)
      refine wpAnyH_take (i := 11) (v := ?_) rfl (by kernel_rfl) (by kernel_rfl) (by kernel_rfl) (fun _ _ _ h => h) (Or.inl ⟨by rfl, ?hy⟩) (by assumption) ?_
      case hy => (intro w hSw; (try dsimp only at hSw); go_simp; try with_reducible rfl)
      refine wpAnyH_take (i := 12) (v := ?_) rfl (by kernel_rfl) (by kernel_rfl) (by kernel_rfl) (fun _ _ _ h => h) (Or.inl ⟨by rfl, ?hy⟩) (by assumption) ?_
      case hy => (intro w hSw; (try dsimp only at hSw); go_simp; try with_reducible rfl)
      simp only [Act.put, List.setIfInBounds_toArray]
      refine wpAnyH_ready (rs := [10, 15]) (by kernel_rfl) (by simp) ?_
      refine AllReadyH.cons rfl (fun K hK => ?_) (AllReadyH.cons rfl (fun K hK => ?_) AllReadyH.nil)
      · skip
        go_simp
        refine (at_any _ c at_ u _ hHeld.2.2.1 hfi hu1 h1 h2).mono ?_
        rintro e w3 ⟨rfl, hbw3⟩
        have hzw3 := hbw3.size
        try simp at hzw3
        refine hK.out _ _ (PS_call hHeld hbw3) (fun hH2 => ?_)
        clear hHeld
        have hHeld := hH2
        clear hH2 hK K
        refine wpAnyH_ready (rs := [13, 15]) (by kernel_rfl) (by simp) ?_
        refine AllReadyH.cons rfl (fun K hK => ?_) (AllReadyH.cons rfl (fun K hK => ?_) AllReadyH.nil)
        · skip
          go_simp
          refine (at_any _ c at_ u _ hHeld.2.2.1 hfi hu1 h1 h2).mono ?_
          rintro e w4 ⟨rfl, hbw4⟩
          have hzw4 := hbw4.size
          try simp at hzw4
          refine hK.out _ _ (PS_call hHeld hbw4) (fun hH2 => ?_)
          clear hHeld
          have hHeld := hH2
          clear hH2 hK K
          refine wpAnyH_take (i := 14) (v := ?_) rfl (by kernel_rfl) (by kernel_rfl) (by kernel_rfl) (fun _ _ _ h => h) (Or.inl ⟨by rfl, ?hy⟩) (by assumption) ?_
          case hy => (intro w hSw; (try dsimp only at hSw); go_simp; try with_reducible rfl)
          simp only [Act.put, List.setIfInBounds_toArray]
          refine wpAnyH_ready (rs := [15]) (by kernel_rfl) (by simp) (AllReadyH.cons rfl (fun K hK => ?_) AllReadyH.nil)
          go_simp
          refine hK.out _ _ (PS_alloc hHeld _) (fun hH2 => ?_)
          have hPrev := hHeld
          clear hHeld
          have hHeld := hH2
          clear hH2 hK K
          refine wpAnyH_ready (rs := [16]) (by kernel_rfl) (by simp) (AllReadyH.cons rfl (fun K hK => ?_) AllReadyH.nil)
          go_simp
          have hS := (PS_alloc hPrev (.cells #[.bool c.r, .bool c.h, .int .i64 (c.now at_), .int .i64 (c.now at_)] 38))
          have hQ := Blk.new w4 38 #[.bool c.r, .bool c.h, .int .i64 (c.now at_), .int .i64 (c.now at_)]
          refine hK.out _ _ hS (fun _ => ?_)
          refine wpAnyH_done (by kernel_rfl) ?_ _
          clear hK K hHeld hPrev
          refine forget (F := fun W => Blk W w4.heap.size 38 #[.bool c.r, .bool c.h, .int .i64 (c.now at_), .int .i64 (c.now at_)] ∧ Blk W w1.heap.size 85 c.cells ∧ Blk W w.heap.size 38 #[.bool false, .bool false, .int .i64 0, .int .i64 0] ∧ Below w.heap.size w W) ⟨hQ, hS.2.2.1, hS.2.2.2.1, hBr.trans (hS.2.2.2.2.1.mono (by omega))⟩ ?_
          clear hS hQ
          rintro W ⟨hK4, hC5, hR5, hB5⟩
          have hP5 : w.heap.size < w4.heap.size := by omega
          have hk1 := hK4.cell
          have hk2 := hK4.frozen
          have hk3 := hC5.cell
          have hk4 := hR5.cell
          have hk5 := hR5.frozen
          clear hb1 hC hRr
          by_cases hh : c.h = true
          · have HH := Lib.hid (show shownV c at_ = K4 c.r true (c.now at_) c.p by unfold shownV; rw [hh]; rfl)
            go_wp2_with fail
            refine bodyPost_cell w.heap.size 38 #[.bool c.r, .bool true, .int .i64 (c.now at_), .int .i64 c.p] (.tuple #[K4 c.r true (c.now at_) c.p, .int .i64 0]) ?_ ?_ ⟨by rw [HP.out, HH.out], ?_⟩
            · exact ((((hR5.far (p := ⟨w4.heap.size, 3, none⟩) (by simp; omega) _).set_ 0 _).set_ 1 _).set_ 2 _).set_ 3 _
            · intro W' hW'
              simp [results, Try.results30, go_sem, hW']
            · exact ((((hB5.setCell (by simp; omega) _).setCell (by simp) _).setCell (by simp) _).setCell (by simp) _).setCell (by simp) _
          · have hh' : c.h = false := by simpa using hh
            have HH := Lib.hid (show shownV c at_ = K4 c.r false (c.now at_) (c.now at_) by unfold shownV; rw [hh']; rfl)
            clear hh
            go_wp2_with fail
            refine bodyPost_cell w.heap.size 38 #[.bool c.r, .bool false, .int .i64 (c.now at_), .int .i64 (c.now at_)] (.tuple #[K4 c.r false (c.now at_) (c.now at_), .int .i64 0]) ?_ ?_ ⟨by rw [HP.out, HH.out], ?_⟩
            · exact (((hR5.set_ 0 _).set_ 1 _).set_ 2 _).set_ 3 _
            · intro W' hW'
              simp [results, Try.results30, go_sem, hW']
            · exact (((hB5.setCell (by simp) _).setCell (by simp) _).setCell (by simp) _).setCell (by simp) _
        · skip
          go_simp
          refine hK.out _ _ (PS_alloc hHeld _) (fun hH2 => ?_)
          have hPrev := hHeld
          clear hHeld
          have hHeld := hH2
          clear hH2 hK K
          refine wpAnyH_ready (rs := [13]) (by kernel_rfl) (by simp) (AllReadyH.cons rfl (fun K hK => ?_) AllReadyH.nil)
          go_simp
          refine (at_any _ c at_ u _ hHeld.2.2.1 hfi hu1 h1 h2).mono ?_
          rintro e w4 ⟨rfl, hbw4⟩
          have hzw4 := hbw4.size
          try simp at hzw4
          refine hK.out _ _ (PS_call hHeld hbw4) (fun hH2 => ?_)
          clear hHeld
          have hHeld := hH2
          clear hH2 hK K
          have hN := (Blk.new w3 38 #[.bool false, .bool false, .int .i64 0, .int .i64 0]).later hbw4
          have hn1 := hN.cell
          have hn2 := hN.frozen
          refine wpAnyH_take (i := 14) (v := ?_) rfl (by kernel_rfl) (by kernel_rfl) (by kernel_rfl) (fun _ _ _ h => h) (Or.inl ⟨by rfl, ?hy⟩) (by assumption) ?_
          case hy => (intro w hSw; (try dsimp only at hSw); go_simp; try with_reducible rfl)
          simp only [Act.put, List.setIfInBounds_toArray]
          refine wpAnyH_ready (rs := [16]) (by kernel_rfl) (by simp) (AllReadyH.cons rfl (fun K hK => ?_) AllReadyH.nil)
          go_simp
          have hS := (PS_set (PS_set (PS_set (PS_set hHeld (p := ⟨w3.heap.size, 0, none⟩) (by simp; omega) (.bool c.r)) (p := ⟨w3.heap.size, 1, none⟩) (by simp; omega) (.bool c.h)) (p := ⟨w3.heap.size, 2, none⟩) (by simp; omega) (.int .i64 (c.now at_))) (p := ⟨w3.heap.size, 3, none⟩) (by simp; omega) (.int .i64 (c.now at_)))
          have hQ := (show Blk _ w3.heap.size 38 #[.bool c.r, .bool c.h, .int .i64 (c.now at_), .int .i64 (c.now at_)] from ((((hN.set_ 0 (.bool c.r)).set_ 1 (.bool c.h)).set_ 2 (.int .i64 (c.now at_))).set_ 3 (.int .i64 (c.now at_))))
          refine hK.out _ _ hS (fun _ => ?_)
          refine wpAnyH_done (by kernel_rfl) ?_ _
          clear hK K hHeld hPrev
          refine forget (F := fun W => Blk W w3.heap.size 38 #[.bool c.r, .bool c.h, .int .i64 (c.now at_), .int .i64 (c.now at_)] ∧ Blk W w1.heap.size 85 c.cells ∧ Blk W w.heap.size 38 #[.bool false, .bool false, .int .i64 0, .int .i64 0] ∧ Below w.heap.size w W) ⟨hQ, hS.2.2.1, hS.2.2.2.1, hBr.trans (hS.2.2.2.2.1.mono (by omega))⟩ ?_
          clear hS hQ
          rintro W ⟨hK4, hC5, hR5, hB5⟩
          have hP5 : w.heap.size < w3.heap.size := by omega
          have hk1 := hK4.cell
          have hk2 := hK4.frozen
          have hk3 := hC5.cell
          have hk4 := hR5.cell
          have hk5 := hR5.frozen
          clear hb1 hC hRr
          by_cases hh : c.h = true
          · have HH := Lib.hid (show shownV c at_ = K4 c.r true (c.now at_) c.p by unfold shownV; rw [hh]; rfl)
            go_wp2_with fail
            refine bodyPost_cell w.heap.size 38 #[.bool c.r, .bool true, .int .i64 (c.now at_), .int .i64 c.p] (.tuple #[K4 c.r true (c.now at_) c.p, .int .i64 0]) ?_ ?_ ⟨by rw [HP.out, HH.out], ?_⟩
            · exact ((((hR5.far (p := ⟨w3.heap.size, 3, none⟩) (by simp; omega) _).set_ 0 _).set_ 1 _).set_ 2 _).set_ 3 _
            · intro W' hW'
              simp [results, Try.results30, go_sem, hW']
            · exact ((((hB5.setCell (by simp; omega) _).setCell (by simp) _).setCell (by simp) _).setCell (by simp) _).setCell (by simp) _
          · have hh' : c.h = false := by simpa using hh
            have HH := Lib.hid (show shownV c at_ = K4 c.r false (c.now at_) (c.now at_) by unfold shownV; rw [hh']; rfl)
            clear hh
            go_wp2_with fail
            refine bodyPost_cell w.heap.size 38 #[.bool c.r, .bool false, .int .i64 (c.now at_), .int .i64 (c.now at_)] (.tuple #[K4 c.r false (c.now at_) (c.now at_), .int .i64 0]) ?_ ?_ ⟨by rw [HP.out, HH.out], ?_⟩
            · exact (((hR5.set_ 0 _).set_ 1 _).set_ 2 _).set_ 3 _
            · intro W' hW'
              simp [results, Try.results30, go_sem, hW']
            · exact (((hB5.setCell (by simp) _).setCell (by simp) _).setCell (by simp) _).setCell (by simp) _
      · skip
        go_simp
        refine hK.out _ _ (PS_drew (PS_alloc hHeld0 _)) (fun hH2 => ?_)
        have hPrev := hHeld
        clear hHeld
        have hHeld := hH2
        clear hH2 hK K
        refine wpAnyH_ready (rs := [10]) (by kernel_rfl) (by simp) (AllReadyH.cons rfl (fun K hK => ?_) AllReadyH.nil)
        go_simp
        refine (at_any _ c at_ u _ hHeld.2.2.1 hfi hu1 h1 h2).mono ?_
        rintro e w3 ⟨rfl, hbw3⟩
        have hzw3 := hbw3.size
        try simp at hzw3
        refine hK.out _ _ (PS_call hHeld hbw3) (fun hH2 => ?_)
        clear hHeld
        have hHeld := hH2
        clear hH2 hK K
        refine wpAnyH_ready (rs := [13]) (by kernel_rfl) (by simp) (AllReadyH.cons rfl (fun K hK => ?_) AllReadyH.nil)
        go_simp
        refine (at_any _ c at_ u _ hHeld.2.2.1 hfi hu1 h1 h2).mono ?_
        rintro e w4 ⟨rfl, hbw4⟩
        have hzw4 := hbw4.size
        try simp at hzw4
        refine hK.out _ _ (PS_call hHeld hbw4) (fun hH2 => ?_)
        clear hHeld
        have hHeld := hH2
        clear hH2 hK K
        have hN := (((Blk.new wr 38 #[.bool false, .bool false, .int .i64 0, .int .i64 0]).drew).later hbw3).later hbw4
        have hn1 := hN.cell
        have hn2 := hN.frozen
        refine wpAnyH_take (i := 14) (v := ?_) rfl (by kernel_rfl) (by kernel_rfl) (by kernel_rfl) (fun _ _ _ h => h) (Or.inl ⟨by rfl, ?hy⟩) (by assumption) ?_
        case hy => (intro w hSw; (try dsimp only at hSw); go_simp; try with_reducible rfl)
        simp only [Act.put, List.setIfInBounds_toArray]
        refine wpAnyH_ready (rs := [16]) (by kernel_rfl) (by simp) (AllReadyH.cons rfl (fun K hK => ?_) AllReadyH.nil)
        go_simp
        have hS := (PS_set (PS_set (PS_set (PS_set hHeld (p := ⟨wr.heap.size, 0, none⟩) (by simp) (.bool c.r)) (p := ⟨wr.heap.size, 1, none⟩) (by simp) (.bool c.h)) (p := ⟨wr.heap.size, 2, none⟩) (by simp) (.int .i64 (c.now at_))) (p := ⟨wr.heap.size, 3, none⟩) (by simp) (.int .i64 (c.now at_)))
        have hQ := (show Blk _ wr.heap.size 38 #[.bool c.r, .bool c.h, .int .i64 (c.now at_), .int .i64 (c.now at_)] from ((((hN.set_ 0 (.bool c.r)).set_ 1 (.bool c.h)).set_ 2 (.int .i64 (c.now at_))).set_ 3 (.int .i64 (c.now at_))))
        refine hK.out _ _ hS (fun _ => ?_)
        refine wpAnyH_done (by kernel_rfl) ?_ _
        clear hK K hHeld hPrev
        refine forget (F := fun W => Blk W wr.heap.size 38 #[.bool c.r, .bool c.h, .int .i64 (c.now at_), .int .i64 (c.now at_)] ∧ Blk W w1.heap.size 85 c.cells ∧ Blk W w.heap.size 38 #[.bool false, .bool false, .int .i64 0, .int .i64 0] ∧ Below w.heap.size w W) ⟨hQ, hS.2.2.1, hS.2.2.2.1, hBr.trans (hS.2.2.2.2.1.mono (by omega))⟩ ?_
        clear hS hQ
        rintro W ⟨hK4, hC5, hR5, hB5⟩
        have hP5 : w.heap.size < wr.heap.size := by omega
        have hk1 := hK4.cell
        have hk2 := hK4.frozen
        have hk3 := hC5.cell
        have hk4 := hR5.cell
        have hk5 := hR5.frozen
        clear hb1 hC hRr
        by_cases hh : c.h = true
        · have HH := Lib.hid (show shownV c at_ = K4 c.r true (c.now at_) c.p by unfold shownV; rw [hh]; rfl)
          go_wp2_with fail
          refine bodyPost_cell w.heap.size 38 #[.bool c.r, .bool true, .int .i64 (c.now at_), .int .i64 c.p] (.tuple #[K4 c.r true (c.now at_) c.p, .int .i64 0]) ?_ ?_ ⟨by rw [HP.out, HH.out], ?_⟩
          · exact ((((hR5.far (p := ⟨wr.heap.size, 3, none⟩) (by simp; omega) _).set_ 0 _).set_ 1 _).set_ 2 _).set_ 3 _
          · intro W' hW'
            simp [results, Try.results30, go_sem, hW']
          · exact ((((hB5.setCell (by simp; omega) _).setCell (by simp) _).setCell (by simp) _).setCell (by simp) _).setCell (by simp) _
        · have hh' : c.h = false := by simpa using hh
          have HH := Lib.hid (show shownV c at_ = K4 c.r false (c.now at_) (c.now at_) by unfold shownV; rw [hh']; rfl)
          clear hh
          go_wp2_with fail
          refine bodyPost_cell w.heap.size 38 #[.bool c.r, .bool false, .int .i64 (c.now at_), .int .i64 (c.now at_)] (.tuple #[K4 c.r false (c.now at_) (c.now at_), .int .i64 0]) ?_ ?_ ⟨by rw [HP.out, HH.out], ?_⟩
          · exact (((hR5.set_ 0 _).set_ 1 _).set_ 2 _).set_ 3 _
          · intro W' hW'
            simp [results, Try.results30, go_sem, hW']
          · exact (((hB5.setCell (by simp) _).setCell (by simp) _).setCell (by simp) _).setCell (by simp) _
end Go.Proofs.Ytjlnkghjiaglmaa
