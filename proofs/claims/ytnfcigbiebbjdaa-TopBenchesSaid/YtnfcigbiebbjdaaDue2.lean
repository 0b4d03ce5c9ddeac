/-
  Some jobs by rising due.
  Conditions: the numbers are the jobs' own and rise; the slices start at the heads of blocks.
-/
import Derived.Test.YtnfcigbiebbjdaaDues
import Derived.Test.YtnfcigbiebbjdaaOrdA
import Derived.Lib.SliceRun
namespace Go.Proofs.Ytnfcigbiebbjdaa
open Go.RowKit

theorem ins_none (a : Option Addr) (c g : Nat) (cb : Array Value) (w : World) : Calls Try.prog 91 #[.slice a 0 c, .int .i64 0, .int .i64 0, .func (.func g) #[] cb] w fun e w' => e = .returned (.tuple #[]) ∧ w = w' := by
  go_enter Try.func91, Try.ntmps91
  go_wp2_with fail
  go_loopw [8] (fun i wr => i = .int .i64 1 ∧ w = wr) (fun _ _ => 0)
  case atStart => exact ⟨rfl, rfl⟩
  case round =>
    obtain ⟨rfl, rfl⟩ := hrel
    go_wp2_with fail
    go_end0
    exact ⟨rfl, rfl⟩
theorem stable_none (a : Option Addr) (c g : Nat) (cb : Array Value) (w : World) : Calls Try.prog 79 #[.slice a 0 c, .int .i64 0, .func (.func g) #[] cb] w fun e w' => e = .returned (.tuple #[]) ∧ w = w' := by
  go_enter Try.func79, Try.ntmps79
  go_wp2_with fail
  go_loopw [7, 8] (fun u v wr => u = .int .i64 0 ∧ v = .int .i64 20 ∧ w = wr) (fun _ _ _ => 0)
  case atStart => exact ⟨rfl, rfl, rfl⟩
  case round =>
    obtain ⟨rfl, rfl, rfl⟩ := hrel
    go_wp2_with fail
    refine (ins_none a c g cb _).mono ?_
    rintro e w' ⟨rfl, rfl⟩
    go_wp2_with fail
    go_loopw [6, 7, 8, 9] (fun t u v x wr => t = .int .i64 20 ∧ w = wr) (fun _ _ _ _ _ => 0)
    case atStart => exact ⟨rfl, rfl⟩
    case round =>
      obtain ⟨rfl, rfl⟩ := hrel
      go_wp2_with fail
      go_end0
      exact ⟨rfl, rfl⟩
theorem sort_empty (a : Option Addr) (c g : Nat) (cb : Array Value) (w : World) : Calls Try.prog 54 #[.slice a 0 c, .func (.func g) #[] cb] w fun e w' => e = .returned (.tuple #[]) ∧ w = w' := by
  go_enter Try.func54, Try.ntmps54
  go_wp2_with fail
  refine (stable_none a c g cb _).mono ?_
  rintro e w' ⟨rfl, rfl⟩
  go_wp2_with fail
  go_end0
  exact ⟨rfl, rfl⟩

set_option maxHeartbeats 1000000 in
theorem dueCmp_any (A : Option Addr) (n c b i j : Nat) (l : List Jb) (W : World) (h2 : Blk W b 22 #[.slice A n c]) (rA : JobsH W A n l) (hi : i < n) (hj : j < n) :
    Calls Try.prog 85 #[.int .i64 i, .int .i64 j, .pointer (some ⟨b, 0, none⟩)] W fun e w' => e = .returned (.int .i64 (dueC l i j)) ∧ Below W.heap.size W w' := by
  obtain ⟨g, x, rfl, hg, hx, x0, x1, x2, x3, BX, mX, cX, x4, _⟩ := rA.at_ hi
  obtain ⟨g', y, e1, _, hy, y0, y1, y2, y3, BY, mY, cY, y4, _⟩ := rA.at_ hj
  cases e1
  have HS : Hid (dueC l i j = cmpI x.due y.due) := by
    show _ = _
    unfold dueC
    rw [jat_get hx, jat_get hy]
  have l2 := h2.lt
  have c2 := h2.cell
  have hij : (i : Int) < (n : Int) := by omega
  have hjj : (j : Int) < (n : Int) := by omega
  have M := fun w => Lib.hid (compare_any x.due y.due w)
  have HM := Lib.hid M
  have hxl := later_cell (w := W)
  clear rA hx hy h2 M
  generalize dueC l i j = q at *
  generalize cmpI x.due y.due = q2 at *
  have e2 : Hid (q2 = q) := HS.out.symm
  go_enter Try.func85, Try.ntmps85
  go_wp2_with fail
  refine wp_region_later (by kernel_rfl) (by kernel_rfl) ?_
  repeat (go_big_quiet_step ((go_at_call 56; exact later_same (HM.out _).out)))
  refine wpQuiet_nil ?_
  rintro w2 ⟨⟨_, hb2⟩, rfl⟩
  go_wp2_with fail
  go_ret
  exact ⟨by rw [HS.out]; rfl, hb2⟩
theorem due_cmp {w1 w0 : World} {A : Option Addr} {n c b R : Nat} {l : List Jb} (h2 : Blk w1 b 22 #[.slice A n c]) (rA : JobsH w1 A n l) (hb : Below w1.heap.size w1 w0) (hR : w1.heap.size ≤ R) :
    Cmp 85 #[.pointer (some ⟨b, 0, none⟩)] (dueC l) w0 R (fun x => 0 ≤ x ∧ x < (n : Int)) where
  enters := enters_of Try.func85 (by kernel_rfl) rfl
  tells := by
    rintro W hW x y ⟨x0, x1⟩ ⟨y0, y1⟩
    obtain ⟨i, rfl⟩ := Int.eq_ofNat_of_zero_le x0
    obtain ⟨j, rfl⟩ := Int.eq_ofNat_of_zero_le y0
    have hW' : Below w1.heap.size w1 W := hb.trans (below_of_only hW hR hb.size)
    exact dueCmp_any A n c b i j l W (h2.later hW') (rA.later hW') (by omega) (by omega)

set_option maxRecDepth 100000 in
set_option maxHeartbeats 1000000 in
theorem clone_any (A : Option Addr) (n c : Nat) (l : List Int) (w : World) (rA : RowH w A n l) (hn : n ≤ 1000) :
    Calls Try.prog 84 #[.slice A n c] w fun e w' => ∃ v, e = .returned v ∧ w'.ownsRow w.heap.size 3 1 v n (l.map (Value.int .i64)) ∧ Below w.heap.size w w' := by
  have hb0 : Below w.heap.size w (w.alloc (.cells #[] 3)) := (Below.refl _ _).alloc (Nat.le_refl _) _
  have hmade : (w.alloc (.cells #[] 3)).ownsRow w.heap.size 3 1 (.slice (some ⟨w.heap.size, 0, none⟩) 0 0) 0 (([] : List Int).map (Value.int .i64)) := World.ownsRow_made (base := w.heap.size) (e := 3) (size := 1) w #[] 0 (by simp) (by unfold maxLen; omega) (by simp)
  have hsrc := (rA.later hb0).rowI
  have q23 : ∀ (w : World) (a : Option Addr) (n c n' c' : Nat), (binOp .eql 23 (.slice a n c) (.slice none n' c')).run Try.prog w = .ok (.bool a.isNone) w := fun w a n c n' c' => Lib.run_eql_slice_nil w _ _ a n c n' c' Try.underlying23
  cases A with
  | none =>
    have hn0 : n = 0 := by
      rcases Nat.eq_zero_or_pos n with z | z
      · exact z
      · obtain ⟨g, e, _⟩ := rA.2 z
        cases e
    subst hn0
    have hl0 : l = [] := List.eq_nil_of_length_eq_zero rA.1
    subst hl0
    go_enter Try.func84, Try.ntmps84
    go_wp2_with fail
    go_ret
    exact ⟨_, rfl, by simpa using World.ownsRow_nil _ _ _ _, Below.refl _ _⟩
  | some a =>
    clear rA
    go_enter Try.func84, Try.ntmps84
    go_wp2_with (at_builtin; refine app_ints _ rfl (.tmp 5) (.tmp 6) rfl w.heap.size _ 0 [] rfl hmade (some a) n c l rfl hsrc (by omega) (by simp) ?_)
    intro v w1 hown hgr
    have hb1 : Below w.heap.size w w1 := hb0.grown hgr (by simp) (fun p hp => by simp [Value.ownBlock] at hp; omega)
    have hfo : Hid (w1.ownsRow w.heap.size 3 1 v n (l.map (Value.int .i64))) := by show World.ownsRow _ _ _ _ _ _ _; simpa using hown
    clear hown hgr hsrc hmade hb0
    go_wp2_with fail
    go_ret
    exact ⟨v, rfl, hfo.out, hb1⟩

/-- What byDue returns. -/
def DueR (w : World) (l : List Jb) (d : List Int) (m : Nat) (e : Ending) (w' : World) : Prop :=
  ∃ (R : Option Addr) (c : Nat) (o : List Int), e = .returned (.slice R m c) ∧ o.Perm d ∧ o.Pairwise (leOf (dueC l)) ∧ RowH w' R m o ∧ Below w.heap.size w w'
set_option maxRecDepth 100000 in
set_option maxHeartbeats 1000000 in
theorem byDue_any (A O : Option Addr) (n c m e : Nat) (l : List Jb) (d : List Int) (w : World) (rA : JobsH w A n l) (rO : RowH w O m d) (hd : RiseP n d) (hm : m ≤ 1000) :
    Calls Try.prog 72 #[.slice A n c, .slice O m e] w (DueR w l d m) := by
  have hw1 : Below w.heap.size w (w.alloc (.cells #[.slice A n c] 22)) := (Below.refl _ _).alloc (Nat.le_refl _) _
  have k1 := Blk.new w 22 #[.slice A n c]
  have C1 := Lib.hid (clone_any O m e d _ (rO.later hw1) hm)
  have HD := Lib.hid hd
  have HL := Lib.hid rO.1
  have x0 := k1.cell
  have y0 := k1.lt
  clear hd
  go_enter Try.func72, Try.ntmps72
  go_wp2_with fail
  refine C1.out.mono ?_
  rintro e1 w2 ⟨v, rfl, hown, hb2⟩
  have k2 := k1.later hb2
  have hw2 := hw1.trans (hb2.mono hw1.size)
  have x2 := k2.cell
  have y2 := k2.lt
  clear C1 x0 y0
  rcases hown.2 with ⟨h2, h3⟩ | ⟨R, cap, cur, h2, h3, h4, h5, h6, h7, h8⟩
  · subst h2
    subst h3
    have hd0 : d = [] := List.eq_nil_of_length_eq_zero HL.out
    clear hown
    go_wp2_with fail
    refine (sort_empty none 0 85 _ _).mono ?_
    rintro e2 w' ⟨rfl, rfl⟩
    go_wp2_with fail
    go_ret
    exact ⟨none, 0, [], rfl, by rw [hd0], List.Pairwise.nil, RowH.nil _ _, hw2⟩
  · subst h2
    have hB := RowB.of_own hown
    have C := due_cmp (R := R) (w0 := w2) k1 (rA.later hw1) hb2 h3
    have M2 := Lib.hid (sort_any C (due_swo l).tot d cap w2 (fun x hx => HD.out.1 x hx) (asc_agrees _ HD.out.2) hB (World.grownBy.refl _ _) m HL.out.symm hm)
    have hRw : w.heap.size ≤ R := Nat.le_trans (by simp) h3
    clear C hB hown h4 h5 h6 h7 h8
    go_wp2_with fail
    refine M2.out.mono ?_
    rintro e2 w3 ⟨rfl, o, hP, hS, hB3, hg3⟩
    have HP := Lib.hid hP
    have HS := Lib.hid hS
    have hfin : Below w.heap.size w w3 := hw2.trans (below_of_only hg3 hRw hw2.size)
    have rO3 := RowH.of_row (n := m) hB3 (by rw [hP.length_eq, HL.out])
    clear M2 hP hS hB3 hg3 x2 y2
    go_wp2_with fail
    go_ret
    exact ⟨_, cap, o, rfl, HP.out, HS.out, rO3, hfin⟩
end Go.Proofs.Ytnfcigbiebbjdaa
