/- TalkAsks, TalkAnswers. -/
import Derived.Test.YtmjeefecjgfdjaaDoorTP
import Derived.Test.YtmjeefecjgfdjaaDoorTM
set_option linter.unusedVariables false
set_option linter.unusedSimpArgs false
namespace Go.Eng
open Go Go.Proofs

theorem awake_ok (H : Heap) : Cl 17 [] H (.bool true) H := by
  refine ⟨1, fun n m hn _ => ?_⟩
  obtain ⟨k, rfl⟩ : ∃ k, n = k + 1 := ⟨n - 1, by omega⟩
  kernel_rfl
theorem b_xor {P : Program} {t : TypeId} {k : IntKind} {a b : Int} : ∃ c, binB P .xor t (.int k a) (.int k b) = some (.int k c) := ⟨_, by simp [binB, intB]; rfl⟩
theorem dec_self {α : Type} [DecidableEq α] (a : α) : decide (a = a) = true := by simp
theorem beq_self' (a : Int) : (a == a) = true := by simp
theorem askP_len {k : Int} {l : List UInt8} {x : List Nat} : (askP k l x).length < 9223372036854775807 := by
  unfold askP
  split
  · rename_i h
    have := ckA_ok h
    have h1 := nbs_len [k]
    have h2 := tbs_len l x
    simp only [List.length_cons, List.length_nil] at h1
    simp only [wrA, List.length_append]
    omega
  · simp
theorem ansP_len {k e a : Int} {l : List UInt8} {x : List Nat} : (ansP k e a l x).length < 9223372036854775807 := by
  unfold ansP
  split
  · rename_i h
    have := ckB_ok h
    have h1 := nbs_len [k, e, a]
    have h2 := tbs_len l x
    simp only [List.length_cons, List.length_nil] at h1
    simp only [wrB, List.length_append]
    omega
  · simp
theorem asks_law {H : Heap} {k : Int} {l : List UInt8} {x : List Nat} {w : Value} (hw : By H x w) (hx : ∀ c ∈ x, c < 256) (hm : x.length ≤ mostBytes) (hl : l.length < 9223372036854775807) : ∃ H', Cl 3 [rqV k l w] H (.bool true) H' ∧ Keep (all H) H H' := by
  have k1 : Keep (all H) H (H.push ⟨[.int .i64 k, .string (bs l), w], 1, true⟩) := push_keep
  have b1 : Box (all (H.push ⟨[.int .i64 k, .string (bs l), w], 1, true⟩)) (H.push ⟨[.int .i64 k, .string (bs l), w], 1, true⟩) H.n [.int .i64 k, .string (bs l), w] := push_boxA
  generalize hH1 : H.push ⟨[.int .i64 k, .string (bs l), w], 1, true⟩ = H1 at *
  have w1 := hw.up k1
  obtain ⟨u, H2, c1, c2, c3⟩ := copy_ok w1 hm
  have b2 := (b1.keep c3).mono (upA c3)
  have k3 : Keep (all H2) H2 (H2.push ⟨[.int .i64 k, .string (bs l), u], 1, true⟩) := push_keep
  have d3 : Box (all (H2.push ⟨[.int .i64 k, .string (bs l), u], 1, true⟩)) (H2.push ⟨[.int .i64 k, .string (bs l), u], 1, true⟩) H2.n [.int .i64 k, .string (bs l), u] := push_boxA
  have hst : stV 3 (ptr H2.n 0) (rqV k l u) (H2.push ⟨[.int .i64 0, .string (bs []), nilS], 1, true⟩) = some (undef, H2.push ⟨[.int .i64 k, .string (bs l), u], 1, true⟩) := stA_push (ds := [.int .i64 k, .string (bs l), u]) rfl rfl (all3 c2.oneC.1)
  generalize hH3 : H2.push ⟨[.int .i64 k, .string (bs l), u], 1, true⟩ = H3 at *
  have u3 := c2.sl.up k3
  have w3 := (w1.up c3).up k3
  have b3 := (b2.keep k3).mono (upA k3)
  obtain ⟨a, H4, e1, e2, e3⟩ := ask_ok (k := k) (l := l) u3 hl
  have b4 := (b3.keep e3).mono (upA e3)
  have d4 := (d3.keep e3).mono (upA e3)
  obtain ⟨r, H5, q1, q2, q3⟩ := rask_ok (k := k) (l := l) (w3.up e3) hl
  have b5 := (b4.keep q3).mono (upA q3)
  have d5 := (d4.keep q3).mono (upA q3)
  have g1 := eq_ok (e2.sl.up q3) q2.sl askP_len
  have u5 := (u3.up e3).up q3
  have w5 := (w3.up e3).up q3
  obtain ⟨H6, i1, i2⟩ := ask_may (k := k) (l := l) u5 hl
  have b6 := (b5.keep i2).mono (upA i2)
  have d6 := (d5.keep i2).mono (upA i2)
  obtain ⟨H7, j1, j2⟩ := rask_may (k := k) (l := l) (w5.up i2) hl
  have b7 := (b6.keep j2).mono (upA j2)
  have d7 := (d6.keep j2).mono (upA j2)
  obtain ⟨H8, m1, m2⟩ := sameask_ok (k := k) (k' := k) (l := l) (l' := l) ((u5.up i2).up j2) ((w5.up i2).up j2) hx hx
  rw [dec_self, dec_self, dec_self] at m1
  rw [dec_self] at g1
  refine ⟨H8, ?_, k1.tr (c3.tr (k3.tr (e3.tr (q3.tr (i2.tr (j2.tr m2))))))⟩
  refine Ev.enter (fun n => f3_eq rfl n _ _) ?_
  simp only [f3, real_b, real_i, real_c, chk_t, bnd_some, bnd_up, iff_t, iff_f, gd_t, gd_f, wd_b, wd_u, pick_t, pick_f, b_lss, b_leq, b_gtr, b_geq, b_eql, b_neq, b_seql, b_sneq, b_add, b_sub, u_not, nilC_ptr, fAddr_ptr, Nat.zero_add, extr0, extr1, extr2, lenStr, decide_true, decide_false, bt_tt, bt_tf, bt_ft, bt_ff, bt_bne, Bool.not_true, Bool.not_false, Int.reduceBEq, Int.reduceBNe, extr30, extr31, rq_new hw.oneC, hH1, b1.ld (k := 0) (v := .int .i64 k) rfl, b1.ld (k := 1) (v := .string (bs l)) rfl, b1.ld (k := 2) (v := w) rfl]
  refine Ev.callC c1 ?_
  simp only [real_b, real_i, real_c, chk_t, bnd_some, bnd_up, iff_t, iff_f, gd_t, gd_f, wd_b, wd_u, pick_t, pick_f, b_lss, b_leq, b_gtr, b_geq, b_eql, b_neq, b_seql, b_sneq, b_add, b_sub, u_not, nilC_ptr, fAddr_ptr, Nat.zero_add, extr0, extr1, extr2, lenStr, decide_true, decide_false, bt_tt, bt_tf, bt_ft, bt_ff, bt_bne, Bool.not_true, Bool.not_false, Int.reduceBEq, Int.reduceBNe, extr30, extr31, b1.blk c3, Bool.and_self, Bool.and_true, bld3q c2.oneC.2, new3z, hst, hH3, d3.all (n := 3) rfl]
  refine Ev.callC e1 ?_
  simp only [real_b, real_i, real_c, chk_t, bnd_some, bnd_up, iff_t, iff_f, gd_t, gd_f, wd_b, wd_u, pick_t, pick_f, b_lss, b_leq, b_gtr, b_geq, b_eql, b_neq, b_seql, b_sneq, b_add, b_sub, u_not, nilC_ptr, fAddr_ptr, Nat.zero_add, extr0, extr1, extr2, lenStr, decide_true, decide_false, bt_tt, bt_tf, bt_ft, bt_ff, bt_bne, Bool.not_true, Bool.not_false, Int.reduceBEq, Int.reduceBNe, extr30, extr31, b4.all (n := 3) rfl]
  refine Ev.callC q1 ?_
  simp only [real_b, real_i, real_c, chk_t, bnd_some, bnd_up, iff_t, iff_f, gd_t, gd_f, wd_b, wd_u, pick_t, pick_f, b_lss, b_leq, b_gtr, b_geq, b_eql, b_neq, b_seql, b_sneq, b_add, b_sub, u_not, nilC_ptr, fAddr_ptr, Nat.zero_add, extr0, extr1, extr2, lenStr, decide_true, decide_false, bt_tt, bt_tf, bt_ft, bt_ff, bt_bne, Bool.not_true, Bool.not_false, Int.reduceBEq, Int.reduceBNe, extr30, extr31]
  refine Ev.callC g1 ?_
  simp only [real_b, real_i, real_c, chk_t, bnd_some, bnd_up, iff_t, iff_f, gd_t, gd_f, wd_b, wd_u, pick_t, pick_f, b_lss, b_leq, b_gtr, b_geq, b_eql, b_neq, b_seql, b_sneq, b_add, b_sub, u_not, nilC_ptr, fAddr_ptr, Nat.zero_add, extr0, extr1, extr2, lenStr, decide_true, decide_false, bt_tt, bt_tf, bt_ft, bt_ff, bt_bne, Bool.not_true, Bool.not_false, Int.reduceBEq, Int.reduceBNe, extr30, extr31, beq_self', Bool.or_true, d5.all (n := 3) rfl]
  refine Ev.callC i1 ?_
  simp only [real_b, real_i, real_c, chk_t, bnd_some, bnd_up, iff_t, iff_f, gd_t, gd_f, wd_b, wd_u, pick_t, pick_f, b_lss, b_leq, b_gtr, b_geq, b_eql, b_neq, b_seql, b_sneq, b_add, b_sub, u_not, nilC_ptr, fAddr_ptr, Nat.zero_add, extr0, extr1, extr2, lenStr, decide_true, decide_false, bt_tt, bt_tf, bt_ft, bt_ff, bt_bne, Bool.not_true, Bool.not_false, Int.reduceBEq, Int.reduceBNe, extr30, extr31, Bool.or_true, Bool.false_or, Bool.and_true, b5.blk i2, b6.all (n := 3) rfl]
  refine Ev.callC j1 ?_
  simp only [real_b, real_i, real_c, chk_t, bnd_some, bnd_up, iff_t, iff_f, gd_t, gd_f, wd_b, wd_u, pick_t, pick_f, b_lss, b_leq, b_gtr, b_geq, b_eql, b_neq, b_seql, b_sneq, b_add, b_sub, u_not, nilC_ptr, fAddr_ptr, Nat.zero_add, extr0, extr1, extr2, lenStr, decide_true, decide_false, bt_tt, bt_tf, bt_ft, bt_ff, bt_bne, Bool.not_true, Bool.not_false, Int.reduceBEq, Int.reduceBNe, extr30, extr31, beq_self', Bool.or_true, Bool.false_or, Bool.and_true, d7.all (n := 3) rfl, b7.all (n := 3) rfl]
  refine Ev.callC m1 ?_
  simp only [real_b, real_i, real_c, chk_t, bnd_some, bnd_up, iff_t, iff_f, gd_t, gd_f, wd_b, wd_u, pick_t, pick_f, b_lss, b_leq, b_gtr, b_geq, b_eql, b_neq, b_seql, b_sneq, b_add, b_sub, u_not, nilC_ptr, fAddr_ptr, Nat.zero_add, extr0, extr1, extr2, lenStr, decide_true, decide_false, bt_tt, bt_tf, bt_ft, bt_ff, bt_bne, Bool.not_true, Bool.not_false, Int.reduceBEq, Int.reduceBNe, extr30, extr31, Bool.or_true, Bool.and_self]
  refine Ev.callC (awake_ok _) ?_
  exact Ev.pure _
theorem answers_law {H : Heap} {k e a : Int} {l : List UInt8} {x : List Nat} {w : Value} (hw : By H x w) (hx : ∀ c ∈ x, c < 256) (hm : x.length ≤ mostBytes) : ∃ H', Cl 4 [rpV k e a l w] H (.bool true) H' ∧ Keep (all H) H H' := by
  have k1 : Keep (all H) H (H.push ⟨[.int .i64 k, .int .i64 e, .int .i64 a, .string (bs l), w], 1, true⟩) := push_keep
  have b1 : Box (all (H.push ⟨[.int .i64 k, .int .i64 e, .int .i64 a, .string (bs l), w], 1, true⟩)) (H.push ⟨[.int .i64 k, .int .i64 e, .int .i64 a, .string (bs l), w], 1, true⟩) H.n [.int .i64 k, .int .i64 e, .int .i64 a, .string (bs l), w] := push_boxA
  generalize hH1 : H.push ⟨[.int .i64 k, .int .i64 e, .int .i64 a, .string (bs l), w], 1, true⟩ = H1 at *
  have w1 := hw.up k1
  have k2 : Keep (all H1) H1 (H1.push ⟨[.int .i64 k, .int .i64 e, .int .i64 a, .string (bs l), w], 1, true⟩) := push_keep
  have g2 : (H1.push ⟨[.int .i64 k, .int .i64 e, .int .i64 a, .string (bs l), w], 1, true⟩).get H1.n = some ⟨[.int .i64 k, .int .i64 e, .int .i64 a, .string (bs l), w], 1, true⟩ := push_self
  have l2 : H1.n < (H1.push ⟨[.int .i64 k, .int .i64 e, .int .i64 a, .string (bs l), w], 1, true⟩).n := by simp [push_n]
  have hst : stV 5 (ptr H1.n 0) (.agg [.int .i64 k, .int .i64 e, .int .i64 a, .string (bs l), w].toArray) (H1.push ⟨[.int .i64 0, .int .i64 0, .int .i64 0, .string (bs []), nilS], 1, true⟩) = some (undef, H1.push ⟨[.int .i64 k, .int .i64 e, .int .i64 a, .string (bs l), w], 1, true⟩) := stA_push (ds := [.int .i64 k, .int .i64 e, .int .i64 a, .string (bs l), w]) rfl rfl (all5 hw.oneC.1)
  have b2 := (b1.keep k2)
  generalize hH2 : H1.push ⟨[.int .i64 k, .int .i64 e, .int .i64 a, .string (bs l), w], 1, true⟩ = H2 at *
  obtain ⟨u, H3', c1, c2, c3⟩ := copy_ok (w1.up k2) hm
  have g3 : H3'.get H1.n = some ⟨[.int .i64 k, .int .i64 e, .int .i64 a, .string (bs l), w], 1, true⟩ := by rw [c3.2 H1.n l2]; exact g2
  have s3 : stV 1 (ptr H1.n 4) u H3' = some (undef, H3'.upd H1.n (some ⟨[.int .i64 k, .int .i64 e, .int .i64 a, .string (bs l), u], 1, true⟩)) := stV1_box g3 (by simp) c2.oneC.2 c2.oneC.1
  have u3 : Acc (all H2) (H3'.upd H1.n (some ⟨[.int .i64 k, .int .i64 e, .int .i64 a, .string (bs l), u], 1, true⟩)) 1 u x.length (B x) := c2.past l2 upd_past
  have d3 : Box (all (H3'.upd H1.n (some ⟨[.int .i64 k, .int .i64 e, .int .i64 a, .string (bs l), u], 1, true⟩))) (H3'.upd H1.n (some ⟨[.int .i64 k, .int .i64 e, .int .i64 a, .string (bs l), u], 1, true⟩)) H1.n [.int .i64 k, .int .i64 e, .int .i64 a, .string (bs l), u] := ⟨Nat.lt_of_lt_of_le l2 c3.1, 1, true, upd_self⟩
  have K3 : Keep (all H1) H1 (H3'.upd H1.n (some ⟨[.int .i64 k, .int .i64 e, .int .i64 a, .string (bs l), u], 1, true⟩)) := (k2.tr c3).trans (Keep.upd fun h => Nat.lt_irrefl _ h)
  generalize hH3 : H3'.upd H1.n (some ⟨[.int .i64 k, .int .i64 e, .int .i64 a, .string (bs l), u], 1, true⟩) = H3 at *
  have u3 := u3.sl
  have w3 := w1.up K3
  have b3 := (b1.keep K3).mono (upA K3)
  obtain ⟨o, H4, e1, e2, e3⟩ := ans_ok (k := k) (e := e) (a := a) (l := l) u3
  have b4 := (b3.keep e3).mono (upA e3)
  have d4 := (d3.keep e3).mono (upA e3)
  obtain ⟨r, H5, q1, q2, q3⟩ := rans_ok (k := k) (e := e) (a := a) (l := l) (w3.up e3)
  have b5 := (b4.keep q3).mono (upA q3)
  have d5 := (d4.keep q3).mono (upA q3)
  have g1 := eq_ok (e2.sl.up q3) q2.sl ansP_len
  have u5 := (u3.up e3).up q3
  have w5 := (w3.up e3).up q3
  obtain ⟨H6, i1, i2⟩ := ans_may (k := k) (e := e) (a := a) (l := l) u5
  have b6 := (b5.keep i2).mono (upA i2)
  have d6 := (d5.keep i2).mono (upA i2)
  obtain ⟨H7, j1, j2⟩ := rans_may (k := k) (e := e) (a := a) (l := l) (w5.up i2)
  have b7 := (b6.keep j2).mono (upA j2)
  have d7 := (d6.keep j2).mono (upA j2)
  obtain ⟨H8, m1, m2⟩ := sameans_ok (k := k) (k' := k) (e := e) (e' := e) (a := a) (a' := a) (l := l) (l' := l) ((u5.up i2).up j2) ((w5.up i2).up j2) hx hx
  rw [dec_self, dec_self, dec_self, dec_self, dec_self] at m1
  rw [dec_self] at g1
  refine ⟨H8, ?_, k1.tr (K3.tr (e3.tr (q3.tr (i2.tr (j2.tr m2)))))⟩
  refine Ev.enter (fun n => f4_eq rfl n _ _) ?_
  simp only [f4, real_b, real_i, real_c, chk_t, bnd_some, bnd_up, iff_t, iff_f, gd_t, gd_f, wd_b, wd_u, pick_t, pick_f, b_lss, b_leq, b_gtr, b_geq, b_eql, b_neq, b_seql, b_sneq, b_add, b_sub, u_not, nilC_ptr, fAddr_ptr, Nat.zero_add, extr0, extr1, extr2, lenStr, decide_true, decide_false, bt_tt, bt_tf, bt_ft, bt_ff, bt_bne, Bool.not_true, Bool.not_false, Int.reduceBEq, Int.reduceBNe, extr30, extr31, rp_new hw.oneC, hH1, b1.all (n := 5) rfl, new5z, hst, hH2, b2.ld (k := 4) (v := w) rfl]
  refine Ev.callC c1 ?_
  simp only [real_b, real_i, real_c, chk_t, bnd_some, bnd_up, iff_t, iff_f, gd_t, gd_f, wd_b, wd_u, pick_t, pick_f, b_lss, b_leq, b_gtr, b_geq, b_eql, b_neq, b_seql, b_sneq, b_add, b_sub, u_not, nilC_ptr, fAddr_ptr, Nat.zero_add, extr0, extr1, extr2, lenStr, decide_true, decide_false, bt_tt, bt_tf, bt_ft, bt_ff, bt_bne, Bool.not_true, Bool.not_false, Int.reduceBEq, Int.reduceBNe, extr30, extr31, s3, hH3, d3.all (n := 5) rfl]
  refine Ev.callC e1 ?_
  simp only [real_b, real_i, real_c, chk_t, bnd_some, bnd_up, iff_t, iff_f, gd_t, gd_f, wd_b, wd_u, pick_t, pick_f, b_lss, b_leq, b_gtr, b_geq, b_eql, b_neq, b_seql, b_sneq, b_add, b_sub, u_not, nilC_ptr, fAddr_ptr, Nat.zero_add, extr0, extr1, extr2, lenStr, decide_true, decide_false, bt_tt, bt_tf, bt_ft, bt_ff, bt_bne, Bool.not_true, Bool.not_false, Int.reduceBEq, Int.reduceBNe, extr30, extr31, b4.all (n := 5) rfl]
  refine Ev.callC q1 ?_
  simp only [real_b, real_i, real_c, chk_t, bnd_some, bnd_up, iff_t, iff_f, gd_t, gd_f, wd_b, wd_u, pick_t, pick_f, b_lss, b_leq, b_gtr, b_geq, b_eql, b_neq, b_seql, b_sneq, b_add, b_sub, u_not, nilC_ptr, fAddr_ptr, Nat.zero_add, extr0, extr1, extr2, lenStr, decide_true, decide_false, bt_tt, bt_tf, bt_ft, bt_ff, bt_bne, Bool.not_true, Bool.not_false, Int.reduceBEq, Int.reduceBNe, extr30, extr31]
  refine Ev.callC g1 ?_
  simp only [real_b, real_i, real_c, chk_t, bnd_some, bnd_up, iff_t, iff_f, gd_t, gd_f, wd_b, wd_u, pick_t, pick_f, b_lss, b_leq, b_gtr, b_geq, b_eql, b_neq, b_seql, b_sneq, b_add, b_sub, u_not, nilC_ptr, fAddr_ptr, Nat.zero_add, extr0, extr1, extr2, lenStr, decide_true, decide_false, bt_tt, bt_tf, bt_ft, bt_ff, bt_bne, Bool.not_true, Bool.not_false, Int.reduceBEq, Int.reduceBNe, extr30, extr31, beq_self', Bool.or_true, d5.all (n := 5) rfl]
  refine Ev.callC i1 ?_
  simp only [real_b, real_i, real_c, chk_t, bnd_some, bnd_up, iff_t, iff_f, gd_t, gd_f, wd_b, wd_u, pick_t, pick_f, b_lss, b_leq, b_gtr, b_geq, b_eql, b_neq, b_seql, b_sneq, b_add, b_sub, u_not, nilC_ptr, fAddr_ptr, Nat.zero_add, extr0, extr1, extr2, lenStr, decide_true, decide_false, bt_tt, bt_tf, bt_ft, bt_ff, bt_bne, Bool.not_true, Bool.not_false, Int.reduceBEq, Int.reduceBNe, extr30, extr31, Bool.or_true, Bool.false_or, Bool.and_true, b5.blk i2, b6.all (n := 5) rfl]
  refine Ev.callC j1 ?_
  simp only [real_b, real_i, real_c, chk_t, bnd_some, bnd_up, iff_t, iff_f, gd_t, gd_f, wd_b, wd_u, pick_t, pick_f, b_lss, b_leq, b_gtr, b_geq, b_eql, b_neq, b_seql, b_sneq, b_add, b_sub, u_not, nilC_ptr, fAddr_ptr, Nat.zero_add, extr0, extr1, extr2, lenStr, decide_true, decide_false, bt_tt, bt_tf, bt_ft, bt_ff, bt_bne, Bool.not_true, Bool.not_false, Int.reduceBEq, Int.reduceBNe, extr30, extr31, beq_self', Bool.or_true, Bool.false_or, Bool.and_true, d7.all (n := 5) rfl, b7.all (n := 5) rfl]
  refine Ev.callC m1 ?_
  simp only [real_b, real_i, real_c, chk_t, bnd_some, bnd_up, iff_t, iff_f, gd_t, gd_f, wd_b, wd_u, pick_t, pick_f, b_lss, b_leq, b_gtr, b_geq, b_eql, b_neq, b_seql, b_sneq, b_add, b_sub, u_not, nilC_ptr, fAddr_ptr, Nat.zero_add, extr0, extr1, extr2, lenStr, decide_true, decide_false, bt_tt, bt_tf, bt_ft, bt_ff, bt_bne, Bool.not_true, Bool.not_false, Int.reduceBEq, Int.reduceBNe, extr30, extr31, Bool.or_true, Bool.and_self]
  refine Ev.callC (awake_ok _) ?_
  exact Ev.pure _
end Go.Eng
