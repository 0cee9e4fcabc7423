/- The laws WordsMay, WordsAlone. -/
import Derived.Test.YtdpdagmcdakjjaaDoorWO
set_option linter.unusedVariables false
set_option linter.unusedSimpArgs false
set_option maxRecDepth 100000
namespace Go.Eng
open Go Go.Proofs

theorem nat_ne {a b : Nat} (h : a ≠ b) : ((a : Int) == (b : Int)) = false := by
  rw [Bool.eq_false_iff]; intro h'
  have h2 : (a : Int) = (b : Int) := by simpa using h'
  omega
theorem push_U {H : Heap} {l : List UInt8} : SlU (all (H.push ⟨B (U l), 1, true⟩)) (H.push ⟨B (U l), 1, true⟩) l (.slice (some ⟨H.n, 0, none⟩) (U l).length (U l).length) := by
  have h := push_Sl (R := all (H.push ⟨B (U l), 1, true⟩)) (H := H) (d := U l) (by simp [all, push_n])
  rw [U_len] at h ⊢
  exact h
theorem wordsMay_ok {H : Heap} {s : List UInt8} {x1 : Int} (hL : Lg H) (hb : s.length < 9223372036854775700) : ∃ H', Cl 6 [.string (bs s), .int .i64 x1] H (.bool true) H' ∧ Keep (all H) H H' := by
  obtain ⟨H1, p1, p2⟩ := path_ok (l := s) H (by omega)
  have hL1 := Box.up hL p2
  obtain ⟨H2, a1, a2⟩ := awake_ok hL1
  have u4 : Tryd.prog.underlying 4 = some .bool := by kernel_rfl
  have e1 : ∀ x : Bool, (x == x) = true := fun x => by cases x <;> rfl
  refine ⟨H2, ?_, p2.tr a2⟩
  refine Ev.enter (fun n => f6_eq rfl n _ _ _) ?_
  simp only [f6, real_b, real_i, real_c, chk_t, bnd_some, bnd_up, iff_t, iff_f, gd_t, gd_f, wd_b, wd_u, pick_t, pick_f, b_lss, b_leq, b_gtr, b_geq, b_eql, b_neq, b_seql, b_sneq, b_add, b_sub, u_not, nilC_ptr, fAddr_ptr, Nat.zero_add, extr0, extr1, extr2, lenStr, decide_true, decide_false, bt_tt, bt_tf, bt_ft, bt_ff, bt_bne, Bool.not_true, Bool.not_false, Int.reduceBEq, Int.reduceBNe, extr30, extr31]
  refine Ev.callC (name_ok hL (by omega)) ?_
  refine Ev.callC (name_rok H (by omega)) ?_
  simp only [real_b, real_i, real_c, chk_t, bnd_some, bnd_up, iff_t, iff_f, gd_t, gd_f, wd_b, wd_u, pick_t, pick_f, b_lss, b_leq, b_gtr, b_geq, b_eql, b_neq, b_seql, b_sneq, b_add, b_sub, u_not, nilC_ptr, fAddr_ptr, Nat.zero_add, extr0, extr1, extr2, lenStr, decide_true, decide_false, bt_tt, bt_tf, bt_ft, bt_ff, bt_bne, Bool.not_true, Bool.not_false, Int.reduceBEq, Int.reduceBNe, extr30, extr31, b_beql u4, e1]
  refine Ev.callC p1 ?_
  refine Ev.callC (path_rok H1 (by omega)) ?_
  simp only [real_b, real_i, real_c, chk_t, bnd_some, bnd_up, iff_t, iff_f, gd_t, gd_f, wd_b, wd_u, pick_t, pick_f, b_lss, b_leq, b_gtr, b_geq, b_eql, b_neq, b_seql, b_sneq, b_add, b_sub, u_not, nilC_ptr, fAddr_ptr, Nat.zero_add, extr0, extr1, extr2, lenStr, decide_true, decide_false, bt_tt, bt_tf, bt_ft, bt_ff, bt_bne, Bool.not_true, Bool.not_false, Int.reduceBEq, Int.reduceBNe, extr30, extr31, b_beql u4, e1]
  refine Ev.callC (pat_ok H1 (by omega)) ?_
  refine Ev.callC (pat_rok H1 (by omega)) ?_
  simp only [real_b, real_i, real_c, chk_t, bnd_some, bnd_up, iff_t, iff_f, gd_t, gd_f, wd_b, wd_u, pick_t, pick_f, b_lss, b_leq, b_gtr, b_geq, b_eql, b_neq, b_seql, b_sneq, b_add, b_sub, u_not, nilC_ptr, fAddr_ptr, Nat.zero_add, extr0, extr1, extr2, lenStr, decide_true, decide_false, bt_tt, bt_tf, bt_ft, bt_ff, bt_bne, Bool.not_true, Bool.not_false, Int.reduceBEq, Int.reduceBNe, extr30, extr31, b_beql u4, e1]
  refine Ev.callC (spelled_ok hL1 x1) ?_
  refine Ev.callC (spelled_rok x1 H1) ?_
  have e2 := bs_eql (P := Tryd.prog) (t := 9) (a := spelledN x1) (b := spelledN x1)
  rw [decide_eq_true rfl] at e2
  simp only [real_b, real_i, real_c, chk_t, bnd_some, bnd_up, iff_t, iff_f, gd_t, gd_f, wd_b, wd_u, pick_t, pick_f, b_lss, b_leq, b_gtr, b_geq, b_eql, b_neq, b_seql, b_sneq, b_add, b_sub, u_not, nilC_ptr, fAddr_ptr, Nat.zero_add, extr0, extr1, extr2, lenStr, decide_true, decide_false, bt_tt, bt_tf, bt_ft, bt_ff, bt_bne, Bool.not_true, Bool.not_false, Int.reduceBEq, Int.reduceBNe, extr30, extr31, e2]
  refine Ev.callC a1 ?_
  exact Ev.pure _
theorem wordsAlone_ok {H : Heap} {b : List UInt8} {v : Value} {x1 : Int} (hL : Lg H) (hs : SlU (all H) H b v) (hb : b.length < 9223372036854775807) (i1 : inI x1) : ∃ H', Cl 7 [v, .int .i64 x1] H (.bool true) H' := by
  have hm : mostBytes = 140737488355328 := rfl
  obtain ⟨w1, H2, b1, b2, b3⟩ := wcut_ok hL hs hb
  obtain ⟨H4, f1, f2⟩ := awake_ok (Box.up hL b3)
  by_cases hbig : 8192 < b.length
  · have e : cutR b = ([], 0, 5) := by unfold cutR; rw [if_pos hbig]
    rw [e] at b1
    refine ⟨H4, ?_⟩
    refine Ev.enter (fun n => f7_eq rfl n _ _ _) ?_
    simp only [f7, real_b, real_i, real_c, chk_t, bnd_some, bnd_up, iff_t, iff_f, gd_t, gd_f, wd_b, wd_u, pick_t, pick_f, b_lss, b_leq, b_gtr, b_geq, b_eql, b_neq, b_seql, b_sneq, b_add, b_sub, u_not, nilC_ptr, fAddr_ptr, Nat.zero_add, extr0, extr1, extr2, lenStr, decide_true, decide_false, bt_tt, bt_tf, bt_ft, bt_ff, bt_bne, Bool.not_true, Bool.not_false, Int.reduceBEq, Int.reduceBNe, extr30, extr31]
    refine Ev.callC b1 ?_
    have e1 : ((5 : Int) != 0) = true := rfl
    simp only [real_b, real_i, real_c, chk_t, bnd_some, bnd_up, iff_t, iff_f, gd_t, gd_f, wd_b, wd_u, pick_t, pick_f, b_lss, b_leq, b_gtr, b_geq, b_eql, b_neq, b_seql, b_sneq, b_add, b_sub, u_not, nilC_ptr, fAddr_ptr, Nat.zero_add, extr0, extr1, extr2, lenStr, decide_true, decide_false, bt_tt, bt_tf, bt_ft, bt_ff, bt_bne, Bool.not_true, Bool.not_false, Int.reduceBEq, Int.reduceBNe, extr30, extr31, e1]
    refine Ev.callC f1 ?_
    exact Ev.pure _
  by_cases hc : (cutN 0 b).2 = none
  · have e := cutR_ok (b := b) (by omega) hc
    rw [e] at b1 b2
    have ht : Tks (all H2) H2 (cutN 0 b).1 w1 := b2.sl
    have hln := cutN_len b 0
    have e1 : ((0 : Int) != 0) = false := rfl
    cases hts : (cutN 0 b).1 with
    | nil =>
      rw [hts] at ht
      refine ⟨H4, ?_⟩
      refine Ev.enter (fun n => f7_eq rfl n _ _ _) ?_
      simp only [f7, real_b, real_i, real_c, chk_t, bnd_some, bnd_up, iff_t, iff_f, gd_t, gd_f, wd_b, wd_u, pick_t, pick_f, b_lss, b_leq, b_gtr, b_geq, b_eql, b_neq, b_seql, b_sneq, b_add, b_sub, u_not, nilC_ptr, fAddr_ptr, Nat.zero_add, extr0, extr1, extr2, lenStr, decide_true, decide_false, bt_tt, bt_tf, bt_ft, bt_ff, bt_bne, Bool.not_true, Bool.not_false, Int.reduceBEq, Int.reduceBNe, extr30, extr31]
      refine Ev.callC b1 ?_
      have e2 : lenS w1 = some (.int .i64 0) := Sl.lenS ht
      simp only [real_b, real_i, real_c, chk_t, bnd_some, bnd_up, iff_t, iff_f, gd_t, gd_f, wd_b, wd_u, pick_t, pick_f, b_lss, b_leq, b_gtr, b_geq, b_eql, b_neq, b_seql, b_sneq, b_add, b_sub, u_not, nilC_ptr, fAddr_ptr, Nat.zero_add, extr0, extr1, extr2, lenStr, decide_true, decide_false, bt_tt, bt_tf, bt_ft, bt_ff, bt_bne, Bool.not_true, Bool.not_false, Int.reduceBEq, Int.reduceBNe, extr30, extr31, e1, e2]
      refine Ev.callC f1 ?_
      exact Ev.pure _
    | cons t0 tr =>
      have hne : 0 < (cutN 0 b).1.length := by rw [hts]; simp
      generalize hts2 : (cutN 0 b).1 = ts at *
      clear hts
      obtain ⟨j, j1, j2⟩ := bring_nat (i := x1) hne
      have c1 := bring_ok i1 (n := (ts.length : Int)) (by omega) H2
      rw [j1] at c1
      obtain ⟨t, t1, _⟩ := drop_at (l := ts) (i := j) j2
      obtain ⟨bb, o, a1, _, _, a2⟩ := ht.at t1
      obtain ⟨_, hw2, hw3, hw4⟩ := cut_wordIs b 0 t (by rw [hts2]; exact List.mem_of_getElem? t1)
      rw [Nat.sub_zero] at hw4
      have kp : Keep (all H2) H2 (H2.push ⟨TOK t, 1, true⟩) := push_keep
      have st : stV 3 (ptr H2.n 0) (.agg #[.int .i64 (t.K : Int), .int .i64 (t.F : Int), .int .i64 (t.T : Int)]) (H2.push ⟨[.int .i64 0, .int .i64 0, .int .i64 0], 1, true⟩) = some (undef, H2.push ⟨TOK t, 1, true⟩) := stA_push (ds := TOK t) rfl rfl rfl
      have hbx : Box (all (H2.push ⟨TOK t, 1, true⟩)) (H2.push ⟨TOK t, 1, true⟩) H2.n (TOK t) := push_boxA
      generalize hH3 : H2.push ⟨TOK t, 1, true⟩ = H3 at *
      have K3 : Keep (all H) H H3 := b3.tr kp
      have hs3 : SlU (all H3) H3 b v := Sl.up hs K3
      have l1 : ldC (ptr H2.n 1) H3 = some (.int .i64 (t.F : Int), H3) := hbx.ld rfl
      have l2 : ldC (ptr H2.n 2) H3 = some (.int .i64 (t.T : Int), H3) := hbx.ld rfl
      obtain ⟨u, u1, u2⟩ := hs3.part (k := .i64) (k' := .i64) (i := t.F) (j := t.T) (by omega) (by omega)
      have eown : (b.take t.T).drop t.F = (b.drop t.F).take (t.T - t.F) := by rw [List.drop_take]
      rw [eown] at u2
      have hol : ((b.drop t.F).take (t.T - t.F)).length = t.T - t.F := by simp only [List.length_take, List.length_drop]; omega
      generalize hown : (b.drop t.F).take (t.T - t.F) = own at *
      have kq : Keep (all H3) H3 (H3.push ⟨B (U own), 1, true⟩) := push_keep
      have hs5 : SlU (all (H3.push ⟨B (U own), 1, true⟩)) (H3.push ⟨B (U own), 1, true⟩) own (.slice (some ⟨H3.n, 0, none⟩) (U own).length (U own).length) := push_U
      obtain ⟨w2, H6, d1, d2, d3⟩ := wcut_ok (Box.up (Box.up hL K3) kq) hs5 (by omega)
      have hce : cutN 0 own = ([⟨t.K, 0, own.length⟩], none) := by
        rw [hw4.cut 0, Nat.zero_add]
      have e6 : cutR own = ([⟨t.K, 0, own.length⟩], 0, 0) := by rw [cutR_ok (by omega) (by rw [hce]), hce]
      rw [e6] at d1 d2
      have ht2 : Tks (all H6) H6 [⟨t.K, 0, own.length⟩] w2 := d2.sl
      obtain ⟨bb2, o2, m1, _, _, m2⟩ := ht2.at (i := 0) (t := ⟨t.K, 0, own.length⟩) rfl
      have m1 : iAddrS 3 w2 (.int .i64 0) = some (ptr bb2 o2) := m1
      have K6 : Keep (all H3) H3 H6 := kq.tr d3
      have l0' : ldC (ptr H2.n 0) H6 = some (.int .i64 (t.K : Int), H6) := (hbx.keep K6).ld rfl
      have hL6 : Lg H6 := Box.up (Box.up hL K3) K6
      obtain ⟨z1, z2, z3, z4, z5, z6, z7⟩ := hw4.facts
      have hlw2 : lenS w2 = some (.int .i64 1) := Sl.lenS ht2
      have e7 : ((1 : Int) != 1) = false := rfl
      have hlen : lenStr (.string (bs own)) = some (.int .i64 (own.length : Int)) := by simp only [lenStr, bs_size]
      have hneq := b_neq33 (a := (t.K : Int)) (b := 0) (c := (own.length : Int)) (x := (t.K : Int)) (y := 0) (z := (own.length : Int)) (inI_nat (by omega)) (inI_nat (n := 0) (by omega)) (inI_nat (by omega)) (inI_nat (by omega)) (inI_nat (n := 0) (by omega)) (inI_nat (by omega))
      simp only [and_self, decide_true, Bool.not_true] at hneq
      have hof : ofStr (.string (bs own)) H3 = some (.slice (some ⟨H3.n, 0, none⟩) (U own).length (U own).length, H3.push ⟨B (U own), 1, true⟩) := ofStr_ok (by omega)
      have m2' : Eng.ldA 3 (ptr bb2 o2) H6 = some (.agg #[.int .i64 (t.K : Int), .int .i64 0, .int .i64 (own.length : Int)], H6) := m2
      have e2 : lenS w1 = some (.int .i64 (ts.length : Int)) := Sl.lenS ht
      have e3 : ((ts.length : Int) == 0) = false := nat_ne (b := 0) (by omega)
      have hpart : 1 < own.length → slcStr (.string (bs own)) (some (.int .i64 1)) (some (.int .i64 ((own.length - 1 : Nat) : Int))) = some (.string (bs ((own.take (own.length - 1)).drop 1))) := fun h => by
        exact bs_part (l := own) (i := 1) (j := own.length - 1) (by omega) (by omega)
      have hsub : 1 ≤ own.length → IntKind.i64.wrap ((own.length : Int) - 1) = ((own.length - 1 : Nat) : Int) := fun h => by rw [wrap_i64 (by omega) (by omega)]; omega
      obtain ⟨H7, q1, q2⟩ := awake_ok hL6
      have fin : ∀ {H8 : Heap} (K : Keep (all H6) H6 H8), ∃ H9, Cl 15 [] H8 (.bool true) H9 := fun K => by
        obtain ⟨H9, g, _⟩ := awake_ok (Box.up hL6 K)
        exact ⟨H9, g⟩
      have g1 : ((t.F : Int) < 0) = False := eq_false (by omega)
      have g2 : ((t.T : Int) > (b.length : Int)) = False := eq_false (by omega)
      have g3 : ((t.T : Int) ≤ (t.F : Int)) = False := eq_false (by omega)
      refine Exists.imp (p := ?walk) (fun H9 g => ?front) ?back
      case front =>
        refine Ev.enter (fun n => f7_eq rfl n _ _ _) ?_
        simp only [f7, real_b, real_i, real_c, chk_t, bnd_some, bnd_up, iff_t, iff_f, gd_t, gd_f, wd_b, wd_u, pick_t, pick_f, b_lss, b_leq, b_gtr, b_geq, b_eql, b_neq, b_seql, b_sneq, b_add, b_sub, u_not, nilC_ptr, fAddr_ptr, Nat.zero_add, extr0, extr1, extr2, lenStr, decide_true, decide_false, bt_tt, bt_tf, bt_ft, bt_ff, bt_bne, Bool.not_true, Bool.not_false, Int.reduceBEq, Int.reduceBNe, extr30, extr31]
        refine Ev.callC b1 ?_
        simp only [real_b, real_i, real_c, chk_t, bnd_some, bnd_up, iff_t, iff_f, gd_t, gd_f, wd_b, wd_u, pick_t, pick_f, b_lss, b_leq, b_gtr, b_geq, b_eql, b_neq, b_seql, b_sneq, b_add, b_sub, u_not, nilC_ptr, fAddr_ptr, Nat.zero_add, extr0, extr1, extr2, lenStr, decide_true, decide_false, bt_tt, bt_tf, bt_ft, bt_ff, bt_bne, Bool.not_true, Bool.not_false, Int.reduceBEq, Int.reduceBNe, extr30, extr31, e1, e2, e3]
        refine Ev.callC c1 ?_
        simp only [real_b, real_i, real_c, chk_t, bnd_some, bnd_up, iff_t, iff_f, gd_t, gd_f, wd_b, wd_u, pick_t, pick_f, b_lss, b_leq, b_gtr, b_geq, b_eql, b_neq, b_seql, b_sneq, b_add, b_sub, u_not, nilC_ptr, fAddr_ptr, Nat.zero_add, extr0, extr1, extr2, lenStr, decide_true, decide_false, bt_tt, bt_tf, bt_ft, bt_ff, bt_bne, Bool.not_true, Bool.not_false, Int.reduceBEq, Int.reduceBNe, extr30, extr31, a1, a2, new3, st, hH3, l1, l2, g1, hs3.len, g2, g3, u1, toStr_U u2, hof]
        refine Ev.callC d1 ?_
        simp only [real_b, real_i, real_c, chk_t, bnd_some, bnd_up, iff_t, iff_f, gd_t, gd_f, wd_b, wd_u, pick_t, pick_f, b_lss, b_leq, b_gtr, b_geq, b_eql, b_neq, b_seql, b_sneq, b_add, b_sub, u_not, nilC_ptr, fAddr_ptr, Nat.zero_add, extr0, extr1, extr2, lenStr, decide_true, decide_false, bt_tt, bt_tf, bt_ft, bt_ff, bt_bne, Bool.not_true, Bool.not_false, Int.reduceBEq, Int.reduceBNe, extr30, extr31, e1, hlw2, e7, m1, m2', l0', bs_size, bld3, hneq, Bool.or_true]
        exact g
      by_cases k1 : t.K = 1
      · refine ⟨H7, ?_⟩
        have n1 := name_ok (l := own) hL6 (by omega)
        rw [z3 k1] at n1
        simp only [real_b, real_i, real_c, chk_t, bnd_some, bnd_up, iff_t, iff_f, gd_t, gd_f, wd_b, wd_u, pick_t, pick_f, b_lss, b_leq, b_gtr, b_geq, b_eql, b_neq, b_seql, b_sneq, b_add, b_sub, u_not, nilC_ptr, fAddr_ptr, Nat.zero_add, extr0, extr1, extr2, lenStr, decide_true, decide_false, bt_tt, bt_tf, bt_ft, bt_ff, bt_bne, Bool.not_true, Bool.not_false, Int.reduceBEq, Int.reduceBNe, extr30, extr31, l0', k1]
        refine Ev.callC n1 ?_
        simp only [real_b, real_i, real_c, chk_t, bnd_some, bnd_up, iff_t, iff_f, gd_t, gd_f, wd_b, wd_u, pick_t, pick_f, b_lss, b_leq, b_gtr, b_geq, b_eql, b_neq, b_seql, b_sneq, b_add, b_sub, u_not, nilC_ptr, fAddr_ptr, Nat.zero_add, extr0, extr1, extr2, lenStr, decide_true, decide_false, bt_tt, bt_tf, bt_ft, bt_ff, bt_bne, Bool.not_true, Bool.not_false, Int.reduceBEq, Int.reduceBNe, extr30, extr31]
        exact Ev.callC q1 (Ev.pure _)
      by_cases k2 : t.K = 2
      · obtain ⟨y1, y2⟩ := z4 k2
        have yy : ((own.length : Int) > 2) = True := eq_true (by omega)
        have yz : 1 < own.length := by omega
        obtain ⟨H8, g1, g2⟩ := path_ok (l := (own.take (own.length - 1)).drop 1) H6 (by simp only [List.length_drop, List.length_take]; omega)
        rw [y2] at g1
        obtain ⟨H9, g3⟩ := fin g2
        refine ⟨H9, ?_⟩
        simp only [real_b, real_i, real_c, chk_t, bnd_some, bnd_up, iff_t, iff_f, gd_t, gd_f, wd_b, wd_u, pick_t, pick_f, b_lss, b_leq, b_gtr, b_geq, b_eql, b_neq, b_seql, b_sneq, b_add, b_sub, u_not, nilC_ptr, fAddr_ptr, Nat.zero_add, extr0, extr1, extr2, lenStr, decide_true, decide_false, bt_tt, bt_tf, bt_ft, bt_ff, bt_bne, Bool.not_true, Bool.not_false, Int.reduceBEq, Int.reduceBNe, extr30, extr31, l0', k2, bs_size, yy, hsub (Nat.le_of_lt yz), hpart yz]
        refine Ev.callC g1 ?_
        simp only [real_b, real_i, real_c, chk_t, bnd_some, bnd_up, iff_t, iff_f, gd_t, gd_f, wd_b, wd_u, pick_t, pick_f, b_lss, b_leq, b_gtr, b_geq, b_eql, b_neq, b_seql, b_sneq, b_add, b_sub, u_not, nilC_ptr, fAddr_ptr, Nat.zero_add, extr0, extr1, extr2, lenStr, decide_true, decide_false, bt_tt, bt_tf, bt_ft, bt_ff, bt_bne, Bool.not_true, Bool.not_false, Int.reduceBEq, Int.reduceBNe, extr30, extr31]
        exact Ev.callC g3 (Ev.pure _)
      by_cases k3 : t.K = 3
      · obtain ⟨y1, y2⟩ := z5 k3
        have yy : ((own.length : Int) > 1) = True := eq_true (by omega)
        have yz : 1 < own.length := by omega
        have g1 := pat_ok (l := (own.take (own.length - 1)).drop 1) H6 (by simp only [List.length_drop, List.length_take]; omega)
        rw [y2] at g1
        refine ⟨H7, ?_⟩
        simp only [real_b, real_i, real_c, chk_t, bnd_some, bnd_up, iff_t, iff_f, gd_t, gd_f, wd_b, wd_u, pick_t, pick_f, b_lss, b_leq, b_gtr, b_geq, b_eql, b_neq, b_seql, b_sneq, b_add, b_sub, u_not, nilC_ptr, fAddr_ptr, Nat.zero_add, extr0, extr1, extr2, lenStr, decide_true, decide_false, bt_tt, bt_tf, bt_ft, bt_ff, bt_bne, Bool.not_true, Bool.not_false, Int.reduceBEq, Int.reduceBNe, extr30, extr31, l0', k3, bs_size, yy, hsub (Nat.le_of_lt yz), hpart yz]
        refine Ev.callC g1 ?_
        simp only [real_b, real_i, real_c, chk_t, bnd_some, bnd_up, iff_t, iff_f, gd_t, gd_f, wd_b, wd_u, pick_t, pick_f, b_lss, b_leq, b_gtr, b_geq, b_eql, b_neq, b_seql, b_sneq, b_add, b_sub, u_not, nilC_ptr, fAddr_ptr, Nat.zero_add, extr0, extr1, extr2, lenStr, decide_true, decide_false, bt_tt, bt_tf, bt_ft, bt_ff, bt_bne, Bool.not_true, Bool.not_false, Int.reduceBEq, Int.reduceBNe, extr30, extr31]
        exact Ev.callC q1 (Ev.pure _)
      by_cases k4 : t.K = 4
      · have y1 := z6 k4
        have e4 : ((own.length : Int) == 1) = true := by rw [y1]; rfl
        refine ⟨H7, ?_⟩
        simp only [real_b, real_i, real_c, chk_t, bnd_some, bnd_up, iff_t, iff_f, gd_t, gd_f, wd_b, wd_u, pick_t, pick_f, b_lss, b_leq, b_gtr, b_geq, b_eql, b_neq, b_seql, b_sneq, b_add, b_sub, u_not, nilC_ptr, fAddr_ptr, Nat.zero_add, extr0, extr1, extr2, lenStr, decide_true, decide_false, bt_tt, bt_tf, bt_ft, bt_ff, bt_bne, Bool.not_true, Bool.not_false, Int.reduceBEq, Int.reduceBNe, extr30, extr31, l0', k4, bs_size, e4]
        exact Ev.callC q1 (Ev.pure _)
      · obtain ⟨y1, y2⟩ := z7 (by omega)
        have n1 := name_ok (l := own) hL6 (by omega)
        rw [y2] at n1
        have n2 := spelled_ok hL6 (t.K : Int)
        have e4 : spelledN ((t.K : Nat) : Int) = own := y1
        rw [e4] at n2
        have e5 := bs_eql (P := Tryd.prog) (t := 9) (a := own) (b := own)
        rw [decide_eq_true rfl] at e5
        have c1' : ((t.K : Int) == 1) = false := nat_ne (b := 1) (by omega)
        have c2' : ((t.K : Int) == 2) = false := nat_ne (b := 2) (by omega)
        have c3' : ((t.K : Int) == 3) = false := nat_ne (b := 3) (by omega)
        have c4' : ((t.K : Int) == 4) = false := nat_ne (b := 4) (by omega)
        refine ⟨H7, ?_⟩
        simp only [real_b, real_i, real_c, chk_t, bnd_some, bnd_up, iff_t, iff_f, gd_t, gd_f, wd_b, wd_u, pick_t, pick_f, b_lss, b_leq, b_gtr, b_geq, b_eql, b_neq, b_seql, b_sneq, b_add, b_sub, u_not, nilC_ptr, fAddr_ptr, Nat.zero_add, extr0, extr1, extr2, lenStr, decide_true, decide_false, bt_tt, bt_tf, bt_ft, bt_ff, bt_bne, Bool.not_true, Bool.not_false, Int.reduceBEq, Int.reduceBNe, extr30, extr31, l0', c1', c2', c3', c4']
        refine Ev.callC n2 ?_
        simp only [real_b, real_i, real_c, chk_t, bnd_some, bnd_up, iff_t, iff_f, gd_t, gd_f, wd_b, wd_u, pick_t, pick_f, b_lss, b_leq, b_gtr, b_geq, b_eql, b_neq, b_seql, b_sneq, b_add, b_sub, u_not, nilC_ptr, fAddr_ptr, Nat.zero_add, extr0, extr1, extr2, lenStr, decide_true, decide_false, bt_tt, bt_tf, bt_ft, bt_ff, bt_bne, Bool.not_true, Bool.not_false, Int.reduceBEq, Int.reduceBNe, extr30, extr31, e5]
        refine Ev.callC n1 ?_
        simp only [real_b, real_i, real_c, chk_t, bnd_some, bnd_up, iff_t, iff_f, gd_t, gd_f, wd_b, wd_u, pick_t, pick_f, b_lss, b_leq, b_gtr, b_geq, b_eql, b_neq, b_seql, b_sneq, b_add, b_sub, u_not, nilC_ptr, fAddr_ptr, Nat.zero_add, extr0, extr1, extr2, lenStr, decide_true, decide_false, bt_tt, bt_tf, bt_ft, bt_ff, bt_bne, Bool.not_true, Bool.not_false, Int.reduceBEq, Int.reduceBNe, extr30, extr31]
        exact Ev.callC q1 (Ev.pure _)
  · obtain ⟨e, he⟩ := cutR_err (b := b) (by omega) hc
    rw [he] at b1
    refine ⟨H4, ?_⟩
    refine Ev.enter (fun n => f7_eq rfl n _ _ _) ?_
    simp only [f7, real_b, real_i, real_c, chk_t, bnd_some, bnd_up, iff_t, iff_f, gd_t, gd_f, wd_b, wd_u, pick_t, pick_f, b_lss, b_leq, b_gtr, b_geq, b_eql, b_neq, b_seql, b_sneq, b_add, b_sub, u_not, nilC_ptr, fAddr_ptr, Nat.zero_add, extr0, extr1, extr2, lenStr, decide_true, decide_false, bt_tt, bt_tf, bt_ft, bt_ff, bt_bne, Bool.not_true, Bool.not_false, Int.reduceBEq, Int.reduceBNe, extr30, extr31]
    refine Ev.callC b1 ?_
    have e1 : ((140 : Int) != 0) = true := rfl
    simp only [real_b, real_i, real_c, chk_t, bnd_some, bnd_up, iff_t, iff_f, gd_t, gd_f, wd_b, wd_u, pick_t, pick_f, b_lss, b_leq, b_gtr, b_geq, b_eql, b_neq, b_seql, b_sneq, b_add, b_sub, u_not, nilC_ptr, fAddr_ptr, Nat.zero_add, extr0, extr1, extr2, lenStr, decide_true, decide_false, bt_tt, bt_tf, bt_ft, bt_ff, bt_bne, Bool.not_true, Bool.not_false, Int.reduceBEq, Int.reduceBNe, extr30, extr31, e1]
    refine Ev.callC f1 ?_
    exact Ev.pure _
end Go.Eng
