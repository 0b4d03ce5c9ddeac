/-
  The plain mathematics of a job more: the sweep is no less late, no fewer can be done by their due, the benches take no less. No program in sight.
  No conditions.
-/
import Derived.Test.YtnfcigbiebbjdaaCrw
namespace Go.Proofs.Ytnfcigbiebbjdaa

theorem jat_front {l : List Jb} {z : Jb} {i : Int} (h0 : 0 ≤ i) (h1 : i < l.length) : jat (l ++ [z]) i = jat l i := by
  obtain ⟨k, rfl⟩ := Int.eq_ofNat_of_zero_le h0
  have hk : k < l.length := by omega
  have h2 : l[k]? = some l[k] := List.getElem?_eq_getElem hk
  rw [jat_get h2, jat_get (l := l ++ [z]) (j := l[k]) (by rw [List.getElem?_append_left hk]; exact h2)]
theorem validB_work {l : List Jb} (hv : validB l = true) {i : Nat} (hi : i < l.length) : (jat l i).work ≠ 0 := by
  have h := hv
  unfold validB at h
  simp only [Bool.and_eq_true] at h
  have h2 : l[i]? = some l[i] := List.getElem?_eq_getElem hi
  have h3 := allB_step h2 h.2
  unfold jobB at h3
  simp only [Bool.and_eq_true, decide_eq_true_eq] at h3
  rw [jat_get h2]
  omega
/-- A job more never makes the sweep less late. -/
theorem sweep_more {l : List Jb} {z : Jb} {n : Nat} {s t : St} {a b : Int} (hl : l.length = n) (hv : validB l = true) (hv' : validB (l ++ [z]) = true) (hn : 0 < n)
    (hr : Reach l n (start l) s) (hd : Done l n s) (hm : LateM l n s.fin a) (hr' : Reach (l ++ [z]) (n + 1) (start (l ++ [z])) t) (hd' : Done (l ++ [z]) (n + 1) t) (hm' : LateM (l ++ [z]) (n + 1) t.fin b) : a ≤ b := by
  obtain ⟨i, k, hi, hk, h1, h2⟩ := hm.worst hv (fun i hi => validB_work hv (by omega)) hr hd hn
  have hj : ∀ j : Nat, j < n → jat (l ++ [z]) j = jat l j := fun j hj => jat_front (by omega) (by omega)
  have hs : winS (l ++ [z]) (jat l i).rel (jat l k).due n = winS l (jat l i).rel (jat l k).due n := by
    unfold winS
    refine sumTo_congr fun j hj2 => ?_
    have e := hj j hj2
    by_cases g : InW l (jat l i).rel (jat l k).due j
    · have g2 : InW (l ++ [z]) (jat l i).rel (jat l k).due j := by unfold InW at g ⊢; rw [e]; exact g
      show (if InW _ _ _ _ then _ else _) = (if InW _ _ _ _ then _ else _)
      rw [if_pos g, if_pos g2, e]
    · have g2 : ¬ InW (l ++ [z]) (jat l i).rel (jat l k).due j := by unfold InW at g ⊢; rw [e]; exact g
      show (if InW _ _ _ _ then _ else _) = (if InW _ _ _ _ then _ else _)
      rw [if_neg g, if_neg g2]
  have hge : winS l (jat l i).rel (jat l k).due n ≤ winS (l ++ [z]) (jat l i).rel (jat l k).due (n + 1) := by
    rw [← hs]
    show _ ≤ winS (l ++ [z]) (jat l i).rel (jat l k).due n + (if InW (l ++ [z]) (jat l i).rel (jat l k).due n then (jat (l ++ [z]) n).work else 0)
    have := (jat_calm hv' n).1
    split <;> omega
  have h3 := hm'.window hv' hr' hd' (r := (jat l i).rel) (d := (jat l k).due) (by omega)
  omega
theorem works_congr {l l' : List Jb} : ∀ {o : List Int}, (∀ x ∈ o, jat l' x = jat l x) → works l' o = works l o
  | [], _ => rfl
  | x :: r, h => by
    simp only [works]
    rw [h x (List.mem_cons_self ..), works_congr fun y hy => h y (List.mem_cons_of_mem _ hy)]
theorem able_congr {l l' : List Jb} {o : List Int} (h : ∀ x ∈ o, jat l' x = jat l x) : AbleT l' 0 o ↔ AbleT l 0 o := by
  have key : ∀ i ∈ o, (0 + works l' (o.filter fun k => decide ((jat l' k).due ≤ (jat l' i).due)) ≤ (jat l' i).due ↔ 0 + works l (o.filter fun k => decide ((jat l k).due ≤ (jat l i).due)) ≤ (jat l i).due) := fun i hi => by
    rw [List.filter_congr (q := fun k => decide ((jat l k).due ≤ (jat l i).due)) fun k hk => by rw [h k hk, h i hi], works_congr fun x hx => h x (List.mem_filter.1 hx).1, h i hi]
  exact ⟨fun g i hi => (key i hi).1 (g i hi), fun g i hi => (key i hi).2 (g i hi)⟩
theorem able_drop {l : List Jb} (hf : Fair l) {T : List Int} {x : Int} (h : AbleT l 0 T) (hx : x ∈ T) : AbleT l 0 (T.erase x) := able_erase hf ((able_perm (perm_erase hx)).1 h)
/-- A job more: no fewer can be done, and at most one more. -/
theorem ontime_more {l : List Jb} {z : Jb} {n q q' : Nat} {o o' : List Int} (hl : l.length = n) (hf' : Fair (l ++ [z])) (ho : RiseP n o) (hA : AbleT l 0 o) (hq : o.length = q)
    (hB : ∀ T : List Int, T.Nodup → (∀ z ∈ T, 0 ≤ z ∧ z < (n : Int)) → AbleT l 0 T → T.length ≤ q)
    (ho' : RiseP (n + 1) o') (hA' : AbleT (l ++ [z]) 0 o') (hq' : o'.length = q') (hB' : ∀ T : List Int, T.Nodup → (∀ z ∈ T, 0 ≤ z ∧ z < ((n + 1 : Nat) : Int)) → AbleT (l ++ [z]) 0 T → T.length ≤ q') : q ≤ q' ∧ q' ≤ q + 1 := by
  have hnd : ∀ {m : Nat} {p : List Int}, RiseP m p → p.Nodup := fun h => h.2.imp fun {x y} h e => by omega
  have hj : ∀ x : Int, 0 ≤ x → x < n → jat (l ++ [z]) x = jat l x := fun x x0 x1 => jat_front x0 (by omega)
  refine ⟨?_, ?_⟩
  · have h1 := hB' o (hnd ho) (fun x hx => by have := ho.1 x hx; omega) ((able_congr fun x hx => hj x (ho.1 x hx).1 (ho.1 x hx).2).2 hA)
    omega
  · by_cases hx : (n : Int) ∈ o'
    · have h2 : ∀ y ∈ o'.erase (n : Int), 0 ≤ y ∧ y < (n : Int) := fun y hy => by
        have h3 := ho'.1 y (List.mem_of_mem_erase hy)
        have h4 : y ≠ (n : Int) := fun e => by subst e; exact (List.Nodup.not_mem_erase (hnd ho')) hy
        omega
      have h3 := hB (o'.erase (n : Int)) ((hnd ho').erase _) h2 ((able_congr fun x hx => hj x (h2 x hx).1 (h2 x hx).2).1 (able_drop hf' hA' hx))
      have h4 := List.length_erase_of_mem hx
      omega
    · have h2 : ∀ y ∈ o', 0 ≤ y ∧ y < (n : Int) := fun y hy => by
        have h3 := ho'.1 y hy
        have h4 : y ≠ (n : Int) := fun e => hx (e ▸ hy)
        omega
      have h3 := hB o' (hnd ho') h2 ((able_congr fun x hx => hj x (h2 x hx).1 (h2 x hx).2).1 hA')
      omega
theorem lenF_mono2 {a b : List Int} : ∀ (o : List Int) (t t' u v : Int), t ≤ t' → u ≤ v → lenF a b t u o ≤ lenF a b t' v o
  | [], _, _, _, _, _, h => h
  | i :: r, t, t', u, v, h1, h2 => lenF_mono2 r _ _ _ _ (by omega) (by omega)
theorem lenF_erase {a b : List Int} (ha : ∀ i, 0 ≤ iat a i) (hb : ∀ i, 0 ≤ iat b i) (x : Int) : ∀ (o : List Int) (t u : Int), lenF a b t u (o.erase x) ≤ lenF a b t u o
  | [], t, u => Int.le_refl _
  | i :: r, t, u => by
    rw [List.erase_cons]
    by_cases e : i = x
    · subst e
      rw [if_pos (by simp)]
      simp only [lenF]
      have := ha i
      have := hb i
      exact lenF_mono2 r _ _ _ _ (by omega) (by omega)
    · rw [if_neg (by simpa using e)]
      simp only [lenF]
      exact lenF_erase ha hb x r _ _
theorem lenF_congr {a b a' b' : List Int} : ∀ {o : List Int} (t u : Int), (∀ x ∈ o, iat a' x = iat a x ∧ iat b' x = iat b x) → lenF a' b' t u o = lenF a b t u o
  | [], _, _, _ => rfl
  | i :: r, t, u, h => by
    have h1 := h i (List.mem_cons_self ..)
    simp only [lenF]
    rw [h1.1, h1.2]
    exact lenF_congr _ _ fun y hy => h y (List.mem_cons_of_mem _ hy)
/-- A job more never makes the benches take less. -/
theorem johnson_more {a b : List Int} {p q : Int} {n : Nat} {o o' : List Int} (hla : a.length = n) (hlb : b.length = n) (hpa : ∀ i, 0 ≤ iat (a ++ [p]) i) (hpb : ∀ i, 0 ≤ iat (b ++ [q]) i)
    (hP : o.Perm (nums n)) (hB : o.Pairwise (Before a b)) (hP' : o'.Perm (nums (n + 1))) : lenF a b 0 0 o ≤ lenF (a ++ [p]) (b ++ [q]) 0 0 o' := by
  have hnd : o'.Nodup := hP'.nodup_iff.2 (nums_nodup _)
  have hmem : (n : Int) ∈ o' := hP'.mem_iff.2 (mem_nums.2 ⟨by omega, by omega⟩)
  have hPe : (o'.erase (n : Int)).Perm (nums n) := by
    refine (List.perm_ext_iff_of_nodup (hnd.erase _) (nums_nodup n)).2 fun y => ?_
    rw [hnd.mem_erase_iff, hP'.mem_iff, mem_nums, mem_nums]
    omega
  have hi : ∀ (c : List Int) (r x : Int), c.length = n → 0 ≤ x → x < n → iat (c ++ [r]) x = iat c x := fun c r x hc x0 x1 => by
    obtain ⟨k, rfl⟩ := Int.eq_ofNat_of_zero_le x0
    unfold iat
    rw [Int.toNat_natCast, List.getD_eq_getElem?_getD, List.getD_eq_getElem?_getD, List.getElem?_append_left (by omega)]
  have h1 := johnson_least (a := a) (b := b) o (o'.erase (n : Int)) 0 0 hB (hPe.trans hP.symm)
  have h2 := lenF_erase hpa hpb (n : Int) o' 0 0
  rw [lenF_congr (a := a) (b := b) 0 0 fun x hx => by
    have := mem_nums.1 (hPe.mem_iff.1 hx)
    exact ⟨hi a p x hla this.1 this.2, hi b q x hlb this.1 this.2⟩] at h2
  omega
end Go.Proofs.Ytnfcigbiebbjdaa
