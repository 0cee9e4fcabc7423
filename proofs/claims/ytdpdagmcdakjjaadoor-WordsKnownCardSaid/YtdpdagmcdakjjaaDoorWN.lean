/- The laws WordsCut and WordsOrder. -/
import Derived.Test.YtdpdagmcdakjjaaDoorWM
set_option linter.unusedVariables false
set_option linter.unusedSimpArgs false
set_option maxRecDepth 100000
namespace Go.Eng
open Go Go.Proofs

theorem cutR_place (b : List UInt8) : 0 ≤ (cutR b).2.1 ∧ (cutR b).2.1 ≤ 8192 := by
  unfold cutR
  by_cases h : 8192 < b.length
  · rw [if_pos h]; simp
  · rw [if_neg h]
    unfold cutG
    cases hc : (cutN 0 b).2 with
    | none => simp
    | some e =>
      have := cut_ahead b 0 e hc
      simp only
      omega
theorem wordsCut_ok {H : Heap} {b : List UInt8} {v : Value} (hL : Lg H) (hs : SlU (all H) H b v) (hb : b.length ≤ 140737488355328) : ∃ H', Cl 3 [v] H (.bool true) H' ∧ Keep (all H) H H' := by
  have hm : mostBytes = 140737488355328 := rfl
  obtain ⟨w, H1, a1, a2, a3⟩ := copy_ok hs (by omega)
  obtain ⟨w1, H2, b1, b2, b3⟩ := wcut_ok (Box.up hL a3) (Acc.slU a2) (by omega)
  have K2 := a3.tr b3
  have hs2 : SlU (all H2) H2 b v := Sl.up hs K2
  obtain ⟨w2, H3, c1, c2, c3⟩ := rcut_ok hs2 (by omega)
  have K3 := K2.tr c3
  have t1 : Tks (all H3) H3 (cutR b).1 w1 := Sl.up (b2.sl) c3
  have t2 : Tks (all H3) H3 (cutR b).1 w2 := c2.sl
  have hl := cutR_len b
  have d1 := same_ok t1 t2 (by omega) (tOk_cutR b) (tOk_cutR b)
  rw [decide_eq_true rfl] at d1
  have hs3 : SlU (all H3) H3 b v := Sl.up hs K3
  have hw3 : SlU (all H3) H3 b w := Sl.up (Acc.slU a2) (b3.tr c3)
  have e1 := eq_ok hw3 hs3 (by omega)
  rw [decide_eq_true rfl] at e1
  obtain ⟨H4, f1, f2⟩ := awake_ok (Box.up hL K3)
  refine ⟨H4, ?_, K3.tr f2⟩
  have q1 : ((cutR b).2.1 == (cutR b).2.1) = true := by simp
  have q2 : ((cutR b).2.2 == (cutR b).2.2) = true := by simp
  refine Ev.enter (fun n => f3_eq rfl n _ _) ?_
  simp only [f3, real_b, real_i, real_c, chk_t, bnd_some, bnd_up, iff_t, iff_f, gd_t, gd_f, wd_b, wd_u, pick_t, pick_f, b_lss, b_leq, b_gtr, b_geq, b_eql, b_neq, b_seql, b_sneq, b_add, b_sub, u_not, nilC_ptr, fAddr_ptr, Nat.zero_add, extr0, extr1, extr2, lenStr, decide_true, decide_false, bt_tt, bt_tf, bt_ft, bt_ff, bt_bne, Bool.not_true, Bool.not_false, Int.reduceBEq, Int.reduceBNe, extr30, extr31]
  refine Ev.callC a1 ?_
  refine Ev.callC b1 ?_
  simp only [real_b, real_i, real_c, chk_t, bnd_some, bnd_up, iff_t, iff_f, gd_t, gd_f, wd_b, wd_u, pick_t, pick_f, b_lss, b_leq, b_gtr, b_geq, b_eql, b_neq, b_seql, b_sneq, b_add, b_sub, u_not, nilC_ptr, fAddr_ptr, Nat.zero_add, extr0, extr1, extr2, lenStr, decide_true, decide_false, bt_tt, bt_tf, bt_ft, bt_ff, bt_bne, Bool.not_true, Bool.not_false, Int.reduceBEq, Int.reduceBNe, extr30, extr31]
  refine Ev.callC c1 ?_
  simp only [real_b, real_i, real_c, chk_t, bnd_some, bnd_up, iff_t, iff_f, gd_t, gd_f, wd_b, wd_u, pick_t, pick_f, b_lss, b_leq, b_gtr, b_geq, b_eql, b_neq, b_seql, b_sneq, b_add, b_sub, u_not, nilC_ptr, fAddr_ptr, Nat.zero_add, extr0, extr1, extr2, lenStr, decide_true, decide_false, bt_tt, bt_tf, bt_ft, bt_ff, bt_bne, Bool.not_true, Bool.not_false, Int.reduceBEq, Int.reduceBNe, extr30, extr31]
  refine Ev.callC d1 ?_
  simp only [real_b, real_i, real_c, chk_t, bnd_some, bnd_up, iff_t, iff_f, gd_t, gd_f, wd_b, wd_u, pick_t, pick_f, b_lss, b_leq, b_gtr, b_geq, b_eql, b_neq, b_seql, b_sneq, b_add, b_sub, u_not, nilC_ptr, fAddr_ptr, Nat.zero_add, extr0, extr1, extr2, lenStr, decide_true, decide_false, bt_tt, bt_tf, bt_ft, bt_ff, bt_bne, Bool.not_true, Bool.not_false, Int.reduceBEq, Int.reduceBNe, extr30, extr31, q1, q2]
  refine Ev.callC e1 ?_
  simp only [real_b, real_i, real_c, chk_t, bnd_some, bnd_up, iff_t, iff_f, gd_t, gd_f, wd_b, wd_u, pick_t, pick_f, b_lss, b_leq, b_gtr, b_geq, b_eql, b_neq, b_seql, b_sneq, b_add, b_sub, u_not, nilC_ptr, fAddr_ptr, Nat.zero_add, extr0, extr1, extr2, lenStr, decide_true, decide_false, bt_tt, bt_tf, bt_ft, bt_ff, bt_bne, Bool.not_true, Bool.not_false, Int.reduceBEq, Int.reduceBNe, extr30, extr31]
  refine Ev.callC f1 ?_
  exact Ev.pure _
theorem order_loop {H0 : Heap} {b : List UInt8} {v w : Value} {ts : List Tok} {e : Nat} (hL : Lg H0) (hs : SlU (all H0) H0 b v) (ht : Tks (all H0) H0 ts w) (he : e ≤ b.length) (hb : b.length ≤ 8192) (hl : ts.length ≤ 8192) :
    ∀ (k i fr : Nat) (H : Heap), i + k = ts.length → Keep (all H0) H0 H → OrdN b e fr (ts.drop i) →
    ∃ H', Ev (fun n m => f4_L0 real (AC n) n m v w (.int .i64 (e : Int)) (.int .i64 (fr : Int)) (.int .i64 (i : Int)) H) (.bool true, H') ∧ Keep (all H0) H0 H' := by
  intro k
  induction k with
  | zero =>
    intro i fr H hi hK ho
    obtain rfl : i = ts.length := by omega
    have hs' : SlU (all H0) H b v := Sl.keep hs hK
    have ht' : Tks (all H0) H ts w := Sl.keep ht hK
    rw [List.drop_length] at ho
    obtain ⟨u, u1, u2⟩ := hs'.part (k := .i64) (k' := .i64) ho.1 he
    have b1 := btw_ok u2 (by simp only [List.length_drop, List.length_take]; omega)
    rw [ho.2] at b1
    have hL' : Lg H := (hL.keep hK).mono (fun i hi => Nat.lt_of_lt_of_le hi hK.1)
    obtain ⟨H4, f1, f2⟩ := awake_ok hL'
    refine ⟨H4, ?_, hK.trans (f2.of_all ((Rb.all H0).mono hK.1))⟩
    refine Ev.step (fun n m => f4_L0.eq_2 _ _ _ _ _ _ _ _ _ _) ?_
    simp only [real_b, real_i, real_c, chk_t, bnd_some, bnd_up, iff_t, iff_f, gd_t, gd_f, wd_b, wd_u, pick_t, pick_f, b_lss, b_leq, b_gtr, b_geq, b_eql, b_neq, b_seql, b_sneq, b_add, b_sub, u_not, nilC_ptr, fAddr_ptr, Nat.zero_add, extr0, extr1, extr2, lenStr, decide_true, decide_false, bt_tt, bt_tf, bt_ft, bt_ff, bt_bne, Bool.not_true, Bool.not_false, Int.reduceBEq, Int.reduceBNe, extr30, extr31, Sl.lenS ht', idx_ge (Nat.le_refl ts.length), u1]
    refine Ev.callC b1 ?_
    simp only [real_b, real_i, real_c, chk_t, bnd_some, bnd_up, iff_t, iff_f, gd_t, gd_f, wd_b, wd_u, pick_t, pick_f, b_lss, b_leq, b_gtr, b_geq, b_eql, b_neq, b_seql, b_sneq, b_add, b_sub, u_not, nilC_ptr, fAddr_ptr, Nat.zero_add, extr0, extr1, extr2, lenStr, decide_true, decide_false, bt_tt, bt_tf, bt_ft, bt_ff, bt_bne, Bool.not_true, Bool.not_false, Int.reduceBEq, Int.reduceBNe, extr30, extr31]
    refine Ev.callC f1 ?_
    exact Ev.pure _
  | succ k ih =>
    intro i fr H hi hK ho
    have ht' : Tks (all H0) H ts w := Sl.keep ht hK
    obtain ⟨t, h1, h2⟩ := drop_at (l := ts) (i := i) (by omega)
    obtain ⟨bb, o, a1, _, _, a2⟩ := ht'.at h1
    rw [h2] at ho
    obtain ⟨o1, o2, o3, o4, o5, o6, o7⟩ := ho
    have kp : Keep (all H0) H (H.push ⟨TOK t, 1, true⟩) := push_keep.of_all ((Rb.all H0).mono hK.1)
    have K1 := hK.trans kp
    have hs' : SlU (all H0) (H.push ⟨TOK t, 1, true⟩) b v := Sl.keep hs K1
    obtain ⟨u, u1, u2⟩ := hs'.part (k := .i64) (k' := .i64) (i := fr) (j := t.F) o3 (by omega)
    have b1 := btw_ok u2 (by simp only [List.length_drop, List.length_take]; omega)
    rw [o6] at b1
    obtain ⟨H', g, kg⟩ := ih (i + 1) t.T (H.push ⟨TOK t, 1, true⟩) (by omega) K1 o7
    have st : stV 3 (ptr H.n 0) (.agg #[.int .i64 (t.K : Int), .int .i64 (t.F : Int), .int .i64 (t.T : Int)]) (H.push ⟨[.int .i64 0, .int .i64 0, .int .i64 0], 1, true⟩) = some (undef, H.push ⟨TOK t, 1, true⟩) := stA_push (ds := TOK t) rfl rfl rfl
    have l0 : ldC (ptr H.n 0) (H.push ⟨TOK t, 1, true⟩) = some (.int .i64 (t.K : Int), H.push ⟨TOK t, 1, true⟩) := push_boxA.ld rfl
    have l1 : ldC (ptr H.n 1) (H.push ⟨TOK t, 1, true⟩) = some (.int .i64 (t.F : Int), H.push ⟨TOK t, 1, true⟩) := push_boxA.ld rfl
    have l2 : ldC (ptr H.n 2) (H.push ⟨TOK t, 1, true⟩) = some (.int .i64 (t.T : Int), H.push ⟨TOK t, 1, true⟩) := push_boxA.ld rfl
    refine ⟨H', ?_, kg⟩
    refine Ev.step (fun n m => f4_L0.eq_2 _ _ _ _ _ _ _ _ _ _) ?_
    simp only [real_b, real_i, real_c, chk_t, bnd_some, bnd_up, iff_t, iff_f, gd_t, gd_f, wd_b, wd_u, pick_t, pick_f, b_lss, b_leq, b_gtr, b_geq, b_eql, b_neq, b_seql, b_sneq, b_add, b_sub, u_not, nilC_ptr, fAddr_ptr, Nat.zero_add, extr0, extr1, extr2, lenStr, decide_true, decide_false, bt_tt, bt_tf, bt_ft, bt_ff, bt_bne, Bool.not_true, Bool.not_false, Int.reduceBEq, Int.reduceBNe, extr30, extr31, Sl.lenS ht', idx_lt (show i < ts.length by omega), a1, a2, new3, st, l0, l1, l2, eq_false (show ¬ ((t.K : Int) < 1) by omega), eq_false (show ¬ ((t.K : Int) > 13) by omega), eq_false (show ¬ ((t.F : Int) < (fr : Int)) by omega),
      eq_false (show ¬ ((t.T : Int) ≤ (t.F : Int)) by omega), eq_false (show ¬ ((t.T : Int) > (e : Int)) by omega), u1]
    refine Ev.callC b1 ?_
    simp only [real_b, real_i, real_c, chk_t, bnd_some, bnd_up, iff_t, iff_f, gd_t, gd_f, wd_b, wd_u, pick_t, pick_f, b_lss, b_leq, b_gtr, b_geq, b_eql, b_neq, b_seql, b_sneq, b_add, b_sub, u_not, nilC_ptr, fAddr_ptr, Nat.zero_add, extr0, extr1, extr2, lenStr, decide_true, decide_false, bt_tt, bt_tf, bt_ft, bt_ff, bt_bne, Bool.not_true, Bool.not_false, Int.reduceBEq, Int.reduceBNe, extr30, extr31, l2, idx_up (show i < 9223372036854775807 by omega)]
    exact g
theorem wordsOrder_ok {H : Heap} {b : List UInt8} {v : Value} (hL : Lg H) (hs : SlU (all H) H b v) (hb : b.length < 9223372036854775807) : ∃ H', Cl 4 [v] H (.bool true) H' ∧ Keep (all H) H H' := by
  obtain ⟨w1, H2, b1, b2, b3⟩ := wcut_ok hL hs hb
  by_cases h : 8192 < b.length
  · have e : cutR b = ([], 0, 5) := by unfold cutR; rw [if_pos h]
    rw [e] at b1
    obtain ⟨H4, f1, f2⟩ := awake_ok (Box.up hL b3)
    refine ⟨H4, ?_, b3.tr f2⟩
    refine Ev.enter (fun n => f4_eq rfl n _ _) ?_
    simp only [f4, real_b, real_i, real_c, chk_t, bnd_some, bnd_up, iff_t, iff_f, gd_t, gd_f, wd_b, wd_u, pick_t, pick_f, b_lss, b_leq, b_gtr, b_geq, b_eql, b_neq, b_seql, b_sneq, b_add, b_sub, u_not, nilC_ptr, fAddr_ptr, Nat.zero_add, extr0, extr1, extr2, lenStr, decide_true, decide_false, bt_tt, bt_tf, bt_ft, bt_ff, bt_bne, Bool.not_true, Bool.not_false, Int.reduceBEq, Int.reduceBNe, extr30, extr31]
    refine Ev.callC b1 ?_
    have e5 : ((5 : Int) == 5) = true := rfl
    simp only [real_b, real_i, real_c, chk_t, bnd_some, bnd_up, iff_t, iff_f, gd_t, gd_f, wd_b, wd_u, pick_t, pick_f, b_lss, b_leq, b_gtr, b_geq, b_eql, b_neq, b_seql, b_sneq, b_add, b_sub, u_not, nilC_ptr, fAddr_ptr, Nat.zero_add, extr0, extr1, extr2, lenStr, decide_true, decide_false, bt_tt, bt_tf, bt_ft, bt_ff, bt_bne, Bool.not_true, Bool.not_false, Int.reduceBEq, Int.reduceBNe, extr30, extr31, e5, hs.len, eq_true (show ((b.length : Int) > 8192) by omega)]
    refine Ev.callC f1 ?_
    exact Ev.pure _
  · have ol := order_law b
    have hln := cutN_len b 0
    have e : cutR b = cutG [] (cutN 0 b) := by unfold cutR; rw [if_neg h]
    rw [e] at b1 b2
    cases hc : (cutN 0 b).2 with
    | none =>
      rw [hc] at ol
      have e2 : cutG [] (cutN 0 b) = ((cutN 0 b).1, 0, 0) := by unfold cutG; rw [hc]; rfl
      rw [e2] at b1 b2
      have ht : Tks (all H2) H2 (cutN 0 b).1 w1 := b2.sl
      obtain ⟨H', g, kg⟩ := order_loop (Box.up hL b3) (Sl.up hs b3) ht (Nat.le_refl b.length) (by omega) (by omega) (cutN 0 b).1.length 0 0 H2 (by omega) (Keep.refl _ _) ol
      refine ⟨H', ?_, b3.tr kg⟩
      refine Ev.enter (fun n => f4_eq rfl n _ _) ?_
      simp only [f4, real_b, real_i, real_c, chk_t, bnd_some, bnd_up, iff_t, iff_f, gd_t, gd_f, wd_b, wd_u, pick_t, pick_f, b_lss, b_leq, b_gtr, b_geq, b_eql, b_neq, b_seql, b_sneq, b_add, b_sub, u_not, nilC_ptr, fAddr_ptr, Nat.zero_add, extr0, extr1, extr2, lenStr, decide_true, decide_false, bt_tt, bt_tf, bt_ft, bt_ff, bt_bne, Bool.not_true, Bool.not_false, Int.reduceBEq, Int.reduceBNe, extr30, extr31]
      refine Ev.callC b1 ?_
      have e5 : ((0 : Int) == 5) = false := rfl
      have e6 : ((0 : Int) != 0) = false := rfl
      simp only [real_b, real_i, real_c, chk_t, bnd_some, bnd_up, iff_t, iff_f, gd_t, gd_f, wd_b, wd_u, pick_t, pick_f, b_lss, b_leq, b_gtr, b_geq, b_eql, b_neq, b_seql, b_sneq, b_add, b_sub, u_not, nilC_ptr, fAddr_ptr, Nat.zero_add, extr0, extr1, extr2, lenStr, decide_true, decide_false, bt_tt, bt_tf, bt_ft, bt_ff, bt_bne, Bool.not_true, Bool.not_false, Int.reduceBEq, Int.reduceBNe, extr30, extr31, e5, e6, hs.len]
      exact g.loop
    | some e0 =>
      rw [hc] at ol
      have e2 : cutG [] (cutN 0 b) = ([], (e0 : Int), 140) := by unfold cutG; rw [hc]
      rw [e2] at b1 b2
      obtain ⟨c1, c2, c3⟩ := cut_ahead b 0 e0 hc
      rw [Nat.zero_add] at c2
      rw [Nat.sub_zero] at c3
      have hs2 : SlU (all H2) H2 b v := Sl.up hs b3
      obtain ⟨u, u1, u2⟩ := hs2.take (i := e0) (by omega)
      have ht2 : (b.take e0).length = e0 := by rw [List.length_take]; omega
      obtain ⟨w2, H3, d1, d2, d3⟩ := wcut_ok (Box.up hL b3) u2 (by omega)
      have e3 : cutR (b.take e0) = ((cutN 0 b).1, 0, 0) := by
        unfold cutR; rw [if_neg (by omega), c3]; rfl
      rw [e3] at d1 d2
      have ht : Tks (all H3) H3 (cutN 0 b).1 w2 := d2.sl
      have K3 := b3.tr d3
      obtain ⟨H', g, kg⟩ := order_loop (e := e0) (Box.up hL K3) (Sl.up hs K3) ht (by omega) (by omega) (by omega) (cutN 0 b).1.length 0 0 H3 (by omega) (Keep.refl _ _) ol
      refine ⟨H', ?_, K3.tr kg⟩
      refine Ev.enter (fun n => f4_eq rfl n _ _) ?_
      simp only [f4, real_b, real_i, real_c, chk_t, bnd_some, bnd_up, iff_t, iff_f, gd_t, gd_f, wd_b, wd_u, pick_t, pick_f, b_lss, b_leq, b_gtr, b_geq, b_eql, b_neq, b_seql, b_sneq, b_add, b_sub, u_not, nilC_ptr, fAddr_ptr, Nat.zero_add, extr0, extr1, extr2, lenStr, decide_true, decide_false, bt_tt, bt_tf, bt_ft, bt_ff, bt_bne, Bool.not_true, Bool.not_false, Int.reduceBEq, Int.reduceBNe, extr30, extr31]
      refine Ev.callC b1 ?_
      have e5 : ((140 : Int) == 5) = false := rfl
      have e6 : ((140 : Int) != 0) = true := rfl
      have e7 : ((140 : Int) != 140) = false := rfl
      have e8 : ((0 : Int) != 0) = false := rfl
      simp only [real_b, real_i, real_c, chk_t, bnd_some, bnd_up, iff_t, iff_f, gd_t, gd_f, wd_b, wd_u, pick_t, pick_f, b_lss, b_leq, b_gtr, b_geq, b_eql, b_neq, b_seql, b_sneq, b_add, b_sub, u_not, nilC_ptr, fAddr_ptr, Nat.zero_add, extr0, extr1, extr2, lenStr, decide_true, decide_false, bt_tt, bt_tf, bt_ft, bt_ff, bt_bne, Bool.not_true, Bool.not_false, Int.reduceBEq, Int.reduceBNe, extr30, extr31, e5, e6, e7, hs.len, hs2.len, eq_false (show ¬ ((e0 : Int) < 0) by omega), eq_false (show ¬ ((e0 : Int) ≥ (b.length : Int)) by omega), u1]
      refine Ev.callC d1 ?_
      simp only [real_b, real_i, real_c, chk_t, bnd_some, bnd_up, iff_t, iff_f, gd_t, gd_f, wd_b, wd_u, pick_t, pick_f, b_lss, b_leq, b_gtr, b_geq, b_eql, b_neq, b_seql, b_sneq, b_add, b_sub, u_not, nilC_ptr, fAddr_ptr, Nat.zero_add, extr0, extr1, extr2, lenStr, decide_true, decide_false, bt_tt, bt_tf, bt_ft, bt_ff, bt_bne, Bool.not_true, Bool.not_false, Int.reduceBEq, Int.reduceBNe, extr30, extr31, e8]
      exact g.loop
end Go.Eng
