import Derived.Test.YtimhmmeoliagjaaDoorZB
set_option linter.unusedVariables false
set_option linter.unusedSimpArgs false
set_option linter.unusedSectionVars false
set_option maxRecDepth 100000
namespace Go.Eng
open Go Go.Proofs
open Tryd (prog)

theorem rsize_ok {l : List Nd} {v : Value} (hl : okL l) : ∀ (f p : Nat) (H : Heap), p ≤ f → p ≤ l.length → Sl (all H) H 7 v l.length (NDS l) →
  ∃ H', ClX 39 [v, .int .i64 ((p : Int) - 1)] H (.int .i64 (szN l f p : Int)) H' ∧ Keep (all H) H H' := by
 intro f
 unfold okL at hl
 induction f with
 | zero =>
  intro p H hp _ hs
  obtain rfl : p = 0 := by omega
  refine ⟨H, Ev.enter (fun n => f39_eq rfl n _ _ _) ?_, Keep.refl _ _⟩
  simp only [f39, ruZ, Int.reduceBEq, Int.reduceBNe]
  exact Ev.pure _
 | succ f ih =>
  intro p H hp hpl hs
  cases p with
  | zero =>
   refine ⟨H, Ev.enter (fun n => f39_eq rfl n _ _ _) ?_, Keep.refl _ _⟩
   simp only [f39, ruZ, Int.reduceBEq, Int.reduceBNe]
   exact Ev.pure _
  | succ p =>
   obtain ⟨nd, hnd⟩ : ∃ nd, l[p]? = some nd := ⟨l[p], List.getElem?_eq_getElem (by omega)⟩
   obtain ⟨K, s, a, b⟩ := nd
   obtain ⟨ad, q1, q2, q3, q4⟩ := node_at hs hnd
   obtain ⟨H1, hH1⟩ : ∃ H1, H.push ⟨ND ⟨K, s, a, b⟩, 1, true⟩ = H1 := ⟨_, rfl⟩
   rw [hH1] at q4
   have k1 : Keep (all H) H H1 := by rw [← hH1]; exact push_keep
   have n1 : H1.n = H.n + 1 := by rw [← hH1]; rfl
   have g1 : H1.get H.n = some ⟨ND ⟨K, s, a, b⟩, 1, true⟩ := by rw [← hH1]; exact push_self
   have s1 := (hs.keep k1).mono (upA k1)
   obtain ⟨H2, c2, k2⟩ := ih p H1 (by omega) (by omega) s1
   have k12 := k1.trans (k2.mono (upA k1))
   have g2 : H2.get H.n = some ⟨ND ⟨K, s, a, b⟩, 1, true⟩ := by rw [k2.2 _ (show H.n < H1.n by omega)]; exact g1
   have s2 := (s1.keep k2).mono (upA k2)
   have hk := szN_le l f p
   obtain ⟨k, hkk⟩ : ∃ k, szN l f p = k := ⟨_, rfl⟩
   rw [hkk] at c2 hk
   obtain ⟨H3, c3, k3⟩ := ih (p - k) H2 (by omega) (by omega) s2
   have hm := szN_le l f (p - k)
   obtain ⟨mm, hmm⟩ : ∃ mm, szN l f (p - k) = mm := ⟨_, rfl⟩
   rw [hmm] at c3 hm
   have k13 := k12.trans (k3.mono (upA k12))
   have ea : (((p + 1 : Nat) : Int) - 1) = (p : Int) := by omega
   have e0 : ((p : Int) < 0) = False := eq_false (by omega)
   have w1 : IntKind.i64.wrap ((p : Int) - 1) = (p : Int) - 1 := wrap_i64 (by omega) (by omega)
   have z5 := nd5 g1
   have z6 := nd6 g1
   have y5 := nd5 g2
   have y6 := nd6 g2
   have z0 := nd0 g1
   have z1 := nd1 g1
   rw [ea]
   have hdef : szN l (f + 1) (p + 1) = (if K ≠ 2 ∧ ¬ sameS s 0 then 0
    else if K = 1 ∨ K = 2 then (if a = 0 ∧ b = 0 then 1 else 0)
    else if K = 5 ∨ K = 6 then (if 0 < k ∧ a = (p : Int) - 1 ∧ b = 0 then k + 1 else 0)
    else if K = 3 ∨ K = 4 then (if 0 < k ∧ b = (p : Int) - 1 ∧ a = (p : Int) - 1 - (k : Int) ∧ 0 < mm then k + mm + 1 else 0) else 0) := by
    rw [szN, hnd]; simp only [hkk, hmm]
   rw [hdef]
   have pre : ∀ x, (K ≠ 2 → sameS s 0) → Ev (fun n m => bnd (up (binB prog .eql 3 (.int .i64 K) (.int .i64 1)) H1) fun x27 H31 => iff x27 (f39_J3 real (AX n) n v (.int .i64 (p : Int)) (ptr H.n 0) (.int .i64 K) x27 H31)
     (bnd (up (binB prog .eql 3 (.int .i64 K) (.int .i64 2)) H31) fun x28 H148 => f39_J3 real (AX n) n v (.int .i64 (p : Int)) (ptr H.n 0) (.int .i64 K) x28 H148)) x → Ev (fun n _ => AX n 39 [v, .int .i64 (p : Int)] H) x := fun x hx h => by
    refine Ev.enter (fun n => f39_eq rfl n _ _ _) ?_
    by_cases h2 : K = 2
    ·subst h2
     simp only [f39, ruA, ruB, ruD, b_lss, e0, q1, q2, q4, show newV [(.int .i64 0), (.int .u64 0), (.int .u64 0), (.int .u64 0), (.int .u64 0), (.int .i64 0), (.int .i64 0)] H = _ from q3, z0, b_neq, i_ne]
     exact h
    ·have hs0 := hx h2
     simp only [f39, ruA, ruB, ruD, b_lss, e0, q1, q2, q4, show newV [(.int .i64 0), (.int .u64 0), (.int .u64 0), (.int .u64 0), (.int .u64 0), (.int .i64 0), (.int .i64 0)] H = _ from q3, z0, z1, b_neq, i_ne, decide_eq_false h2, bld_set0, b_setneq, decide_eq_true hs0]
     exact h
   by_cases hset : K ≠ 2 ∧ ¬ sameS s 0
   ·rw [if_pos hset]
    refine ⟨H1, Ev.enter (fun n => f39_eq rfl n _ _ _) ?_, k1⟩
    simp only [f39, ruA, ruB, ruD, b_lss, e0, q1, q2, q4, show newV [(.int .i64 0), (.int .u64 0), (.int .u64 0), (.int .u64 0), (.int .u64 0), (.int .i64 0), (.int .i64 0)] H = _ from q3, z0, z1, b_neq, i_ne, decide_eq_false hset.1, bld_set0, b_setneq, decide_eq_false hset.2]
    exact Ev.pure _
   rw [if_neg hset]
   have hset' : K ≠ 2 → sameS s 0 := fun h => Classical.byContradiction fun h' => hset ⟨h, h'⟩
   by_cases h12 : K = 1 ∨ K = 2
   ·rw [if_pos h12]
    refine ⟨H1, pre _ hset' ?_, k1⟩
    have go : ∀ (t : Value), Ev (fun n _ => f39_J3 real (AX n) n v (.int .i64 (p : Int)) (ptr H.n 0) t (.bool true) H1) (.int .i64 ((if a = 0 ∧ b = 0 then 1 else 0 : Nat) : Int), H1) := fun t => by
     by_cases h5 : a = 0
     ·by_cases h6 : b = 0
      ·rw [if_pos ⟨h5, h6⟩]
       simp only [f39_J3, ruA, ruB, ruD, z5, z6, b_neq, i_ne, decide_eq_true h5, decide_eq_true h6]
       exact Ev.pure _
      ·rw [if_neg fun h => h6 h.2]
       simp only [f39_J3, ruA, ruB, ruD, z5, z6, b_neq, i_ne, decide_eq_true h5, decide_eq_false h6]
       exact Ev.pure _
     ·rw [if_neg fun h => h5 h.1]
      simp only [f39_J3, ruA, ruB, ruD, z5, z6, b_neq, i_ne, decide_eq_false h5]
      exact Ev.pure _
    rcases h12 with rfl | rfl
    ·simp only [ruZ, Int.reduceBEq, Int.reduceBNe]; exact go _
    ·simp only [ruZ, Int.reduceBEq, Int.reduceBNe]; exact go _
   rw [if_neg h12]
   have h1 : K ≠ 1 := fun h => h12 (.inl h)
   have h2 : K ≠ 2 := fun h => h12 (.inr h)
   by_cases h56 : K = 5 ∨ K = 6
   ·rw [if_pos h56]
    have go : ∀ (t : Value), ∃ H', Ev (fun n _ => f39_J2 real (AX n) n v (.int .i64 (p : Int)) (ptr H.n 0) t (.bool true) H1) (.int .i64 ((if 0 < k ∧ a = (p : Int) - 1 ∧ b = 0 then k + 1 else 0 : Nat) : Int), H') ∧ Keep (all H) H H' := fun t => by
     have w2 : IntKind.i64.wrap ((k : Int) + 1) = ((k + 1 : Nat) : Int) := idx_up (by omega)
     by_cases h5 : a = (p : Int) - 1
     ·by_cases h6 : b = 0
      ·refine ⟨H2, ?_, k12⟩
       simp only [f39_J2, ruA, ruB, ruD, z5, z6, b_sub, b_neq, i_ne, w1, decide_eq_true h5, decide_eq_true h6, Bool.not_true]
       refine Ev.callC c2 ?_
       by_cases h0 : 0 < k
       ·have e3 : ((k : Int) = 0) = False := eq_false (by omega)
        rw [if_pos ⟨h0, h5, h6⟩]
        simp only [ruA, ruD, b_eql, b_add, i_eq, e3, w2]
        exact Ev.pure _
       ·have e3 : ((k : Int) = 0) = True := eq_true (by omega)
        rw [if_neg fun h => h0 h.1]
        simp only [ruA, ruD, b_eql, i_eq, e3]
        exact Ev.pure _
      ·rw [if_neg fun h => h6 h.2.2]
       refine ⟨H1, ?_, k1⟩
       simp only [f39_J2, ruA, ruB, ruD, z5, z6, b_sub, b_neq, i_ne, w1, decide_eq_true h5, decide_eq_false h6]
       exact Ev.pure _
     ·rw [if_neg fun h => h5 h.2.1]
      refine ⟨H1, ?_, k1⟩
      simp only [f39_J2, ruA, ruB, ruD, z5, z6, b_sub, b_neq, i_ne, w1, decide_eq_false h5]
      exact Ev.pure _
    obtain ⟨H', r1, r2⟩ := go (.int .i64 K)
    refine ⟨H', pre _ hset' ?_, r2⟩
    rcases h56 with rfl | rfl
    ·simp only [ruZ, Int.reduceBEq, Int.reduceBNe, f39_J3]; exact r1
    ·simp only [ruZ, Int.reduceBEq, Int.reduceBNe, f39_J3]; exact r1
   rw [if_neg h56]
   have h5 : K ≠ 5 := fun h => h56 (.inl h)
   have h6 : K ≠ 6 := fun h => h56 (.inr h)
   by_cases h34 : K = 3 ∨ K = 4
   ·rw [if_pos h34]
    have go : ∃ H', Ev (fun n _ => f39_J1 real (AX n) n v (.int .i64 (p : Int)) (ptr H.n 0) (.bool true) H1) (.int .i64 ((if 0 < k ∧ b = (p : Int) - 1 ∧ a = (p : Int) - 1 - (k : Int) ∧ 0 < mm then k + mm + 1 else 0 : Nat) : Int), H') ∧ Keep (all H) H H' := by
     have w2 : IntKind.i64.wrap ((p : Int) - 1 - (k : Int)) = (p : Int) - 1 - (k : Int) := wrap_i64 (by omega) (by omega)
     have w3 : IntKind.i64.wrap ((k : Int) + (mm : Int)) = ((k + mm : Nat) : Int) := by rw [← Int.natCast_add, wrap_i64 (by omega) (by omega)]
     have w4 : IntKind.i64.wrap (((k + mm : Nat) : Int) + 1) = ((k + mm + 1 : Nat) : Int) := idx_up (by omega)
     have ec : ((p - k : Nat) : Int) - 1 = (p : Int) - 1 - (k : Int) := by omega
     rw [ec] at c3
     by_cases h0 : 0 < k
     ·have e3 : ((k : Int) = 0) = False := eq_false (by omega)
      by_cases hb : b = (p : Int) - 1
      ·by_cases ha : a = (p : Int) - 1 - (k : Int)
       ·by_cases hm0 : 0 < mm
        ·rw [if_pos ⟨h0, hb, ha, hm0⟩]
         refine ⟨H3, ?_, k13⟩
         simp only [f39_J1, ruA, b_sub, w1]
         refine Ev.callC c2 ?_
         have e4 : ((mm : Int) = 0) = False := eq_false (by omega)
         simp only [ruA, ruB, ruD, e3, y5, y6, b_eql, b_neq, b_sub, i_eq, i_ne, w1, w2, decide_eq_true hb, decide_eq_true ha, Bool.not_true]
         refine Ev.callC c3 ?_
         simp only [ruA, ruD, b_eql, b_add, i_eq, e4, w3, w4]
         exact Ev.pure _
        ·rw [if_neg fun h => hm0 h.2.2.2]
         refine ⟨H3, ?_, k13⟩
         simp only [f39_J1, ruA, b_sub, w1]
         refine Ev.callC c2 ?_
         have e4 : ((mm : Int) = 0) = True := eq_true (by omega)
         simp only [ruA, ruB, ruD, e3, y5, y6, b_eql, b_neq, b_sub, i_eq, i_ne, w1, w2, decide_eq_true hb, decide_eq_true ha, Bool.not_true]
         refine Ev.callC c3 ?_
         simp only [ruA, ruD, b_eql, b_add, i_eq, e4, w3, w4]
         exact Ev.pure _
       ·rw [if_neg fun h => ha h.2.2.1]
        refine ⟨H2, ?_, k12⟩
        simp only [f39_J1, ruA, b_sub, w1]
        refine Ev.callC c2 ?_
        simp only [ruA, ruB, ruD, e3, y5, y6, b_eql, b_neq, b_sub, i_eq, i_ne, w1, w2, decide_eq_true hb, decide_eq_false ha]
        exact Ev.pure _
      ·rw [if_neg fun h => hb h.2.1]
       refine ⟨H2, ?_, k12⟩
       simp only [f39_J1, ruA, b_sub, w1]
       refine Ev.callC c2 ?_
       simp only [ruA, ruB, ruD, e3, y5, y6, b_eql, b_neq, b_sub, i_eq, i_ne, w1, w2, decide_eq_false hb]
       exact Ev.pure _
     ·have e3 : ((k : Int) = 0) = True := eq_true (by omega)
      rw [if_neg fun h => h0 h.1]
      refine ⟨H2, ?_, k12⟩
      simp only [f39_J1, ruA, b_sub, w1]
      refine Ev.callC c2 ?_
      simp only [ruA, ruB, ruD, e3, b_eql, i_eq]
      exact Ev.pure _
    obtain ⟨H', r1, r2⟩ := go
    refine ⟨H', pre _ hset' ?_, r2⟩
    rcases h34 with rfl | rfl
    ·simp only [ruZ, Int.reduceBEq, Int.reduceBNe, f39_J3, f39_J2]; exact r1
    ·simp only [ruZ, Int.reduceBEq, Int.reduceBNe, f39_J3, f39_J2]; exact r1
   rw [if_neg h34]
   have h3 : K ≠ 3 := fun h => h34 (.inl h)
   have h4 : K ≠ 4 := fun h => h34 (.inr h)
   refine ⟨H1, pre _ hset' ?_, k1⟩
   simp only [f39_J3, f39_J2, f39_J1, ruA, b_eql, i_eq, decide_eq_false h1, decide_eq_false h2, decide_eq_false h3, decide_eq_false h4, decide_eq_false h5, decide_eq_false h6]
   exact Ev.pure _
theorem rcheck_ok {l : List Nd} {v : Value} {H : Heap} (hs : Sl (all H) H 7 v l.length (NDS l)) : ∃ H', ClX 17 [.agg #[v]] H (.int .i64 (chkN l)) H' ∧ Keep (all H) H H' := by
 have hv1 : [v].all oneC = true := by
  rcases hs with ⟨rfl, _⟩ | ⟨_, _, _, _, rfl, _⟩ | ⟨_, _, _, _, _, rfl, _⟩ <;> rfl
 obtain ⟨H1, hH1⟩ : ∃ H1, H.push ⟨[v], 1, true⟩ = H1 := ⟨_, rfl⟩
 have k1 : Keep (all H) H H1 := by rw [← hH1]; exact push_keep
 have g1 : H1.get H.n = some ⟨[v], 1, true⟩ := by rw [← hH1]; exact push_self
 have nv : newV (Value.cells (.agg #[v])).toList H = some (ptr H.n 0, H1) := by rw [← hH1]; exact newA (cs := [v]) hv1
 have z0 : ldC (ptr H.n 0) H1 = some (v, H1) := ldG g1 rfl
 have s1 := (hs.keep k1).mono (upA k1)
 unfold chkN
 by_cases h256 : 256 < l.length
 ·rw [if_pos h256]
  have e : ((l.length : Int) > 256) = True := eq_true (by omega)
  refine ⟨H1, Ev.enter (fun n => f17_eq rfl n _ _) ?_, k1⟩
  simp only [f17, ruZ, Int.reduceBEq, Int.reduceBNe, nv, z0, hs.lenS, e]
  exact Ev.pure _
 rw [if_neg h256]
 have hl : okL l := by unfold okL; omega
 have hl' : l.length ≤ 4611686018427387904 := hl
 have e : ((l.length : Int) > 256) = False := eq_false (by omega)
 by_cases h0 : l.length = 0
 ·rw [if_pos (.inl h0)]
  have e1 : ((l.length : Int) == 0) = true := by rw [h0]; rfl
  refine ⟨H1, Ev.enter (fun n => f17_eq rfl n _ _) ?_, k1⟩
  simp only [f17, ruZ, Int.reduceBEq, Int.reduceBNe, nv, z0, hs.lenS, e, e1, Bool.or_true]
  exact Ev.pure _
 have e1 : ((l.length : Int) == 0) = false := by
  have := k_eq' (a := l.length) (k := 0)
  rw [decide_eq_false h0] at this; exact this
 obtain ⟨H2, c2, k2⟩ := rsize_ok hl l.length l.length H1 (Nat.le_refl _) (Nat.le_refl _) s1
 have z2 : ldC (ptr H.n 0) H2 = some (v, H2) := ldG (by rw [k2.2 _ (show H.n < H1.n by rw [← hH1]; simp [push_n])]; exact g1) rfl
 have w1 : IntKind.i64.wrap ((l.length : Int) - 1) = (l.length : Int) - 1 := wrap_i64 (by omega) (by omega)
 have hb : sameBlk H1 H2 (blkOf (ptr H.n 0)) = true := blk_keep (by rw [← hH1]; simp [push_n]) k2
 have pre : ∀ x, Ev (fun n m => iff (.bool (((szN l l.length l.length : Nat) : Int) != (l.length : Int))) (some (Value.int .i64 2, H2)) (some (.int .i64 0, H2))) x → Ev (fun n _ => AX n 17 [.agg #[v]] H) x := fun x hx => by
  refine Ev.enter (fun n => f17_eq rfl n _ _) ?_
  simp only [f17, ruZ, Int.reduceBEq, Int.reduceBNe, nv, z0, hs.lenS, e, e1, Bool.or_true, w1]
  refine Ev.callC c2 ?_
  simp only [ruZ, Int.reduceBEq, Int.reduceBNe, hb, Bool.or_true, Bool.and_true, Bool.false_or, z2, hs.lenS]
  exact hx
 refine ⟨H2, pre _ ?_, k1.trans (k2.mono (upA k1))⟩
 by_cases hsz : szN l l.length l.length = l.length
 ·rw [if_neg (by rintro (h | h); exact h0 h; exact h hsz), hsz]
  simp only [ruZ, Int.reduceBEq, Int.reduceBNe]
  exact Ev.pure _
 ·rw [if_pos (.inr hsz), k_eq, decide_eq_false hsz]
  simp only [ruZ, Int.reduceBEq, Int.reduceBNe]
  exact Ev.pure _
end Go.Eng
