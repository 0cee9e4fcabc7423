/- TalkBack, TalkJust. -/
import Derived.Test.YtmjeefecjgfdjaaDoorTO
set_option linter.unusedVariables false
set_option linter.unusedSimpArgs false
namespace Go.Eng
open Go Go.Proofs

theorem ne0 {a : Int} (h : ¬ a = 0) : (a != 0) = true := by simpa using h
theorem eq0 {a : Int} (h : ¬ a = 0) : (a == 0) = false := by simpa using h
theorem bne_self' (a : Int) : (a != a) = false := by simp
theorem z_bne : ((0 : Int) != 0) = false := rfl
theorem z_beq : ((0 : Int) == 0) = true := rfl
theorem nil_bne : (((([] : List Nat).length : Nat) : Int) != 0) = false := rfl
theorem askP_byte {k : Int} {l : List UInt8} {x : List Nat} (h : ∀ c ∈ x, c < 256) : ∀ c ∈ askP k l x, c < 256 := by
  unfold askP
  split
  · exact wrA_byte h
  · simp
theorem ansP_byte {k e a : Int} {l : List UInt8} {x : List Nat} (h : ∀ c ∈ x, c < 256) : ∀ c ∈ ansP k e a l x, c < 256 := by
  unfold ansP
  split
  · exact wrB_byte h
  · simp
theorem askP_most {k : Int} {l : List UInt8} {x : List Nat} : (askP k l x).length ≤ 8300 := by
  unfold askP
  split
  · rename_i h
    have := ckA_ok h
    have h1 := nbs_len [k]
    have h2 := tbs_len l x
    simp only [List.length_cons, List.length_nil] at h1
    simp only [wrA, List.length_append]
    omega
  · simp
theorem ansP_most {k e a : Int} {l : List UInt8} {x : List Nat} : (ansP k e a l x).length ≤ 262300 := by
  unfold ansP
  split
  · rename_i h
    have := ckB_ok h
    have h1 := nbs_len [k, e, a]
    have h2 := tbs_len l x
    simp only [List.length_cons, List.length_nil] at h1
    simp only [wrB, List.length_append]
    omega
  · simp
theorem back_law {H : Heap} {k k' e' a' : Int} {l l' : List UInt8} {x x' : List Nat} {w w' : Value} (hw : By H x w) (hx : ∀ c ∈ x, c < 256) (hl : l.length < 9223372036854775807) (hw' : By H x' w') (hx' : ∀ c ∈ x', c < 256) :
    ∃ H', Cl 6 [rqV k l w, rpV k' e' a' l' w'] H (.bool true) H' ∧ Keep (all H) H H' := by
  have hmm : mostBytes = 140737488355328 := rfl
  have k1 : Keep (all H) H (H.push ⟨[.int .i64 k, .string (bs l), w], 1, true⟩) := push_keep
  have b1 : Box (all (H.push ⟨[.int .i64 k, .string (bs l), w], 1, true⟩)) (H.push ⟨[.int .i64 k, .string (bs l), w], 1, true⟩) H.n [.int .i64 k, .string (bs l), w] := push_boxA
  generalize hH1 : H.push ⟨[.int .i64 k, .string (bs l), w], 1, true⟩ = H1 at *
  have k2 : Keep (all H1) H1 (H1.push ⟨[.int .i64 k', .int .i64 e', .int .i64 a', .string (bs l'), w'], 1, true⟩) := push_keep
  have b2 : Box (all (H1.push ⟨[.int .i64 k', .int .i64 e', .int .i64 a', .string (bs l'), w'], 1, true⟩)) (H1.push ⟨[.int .i64 k', .int .i64 e', .int .i64 a', .string (bs l'), w'], 1, true⟩) H1.n [.int .i64 k', .int .i64 e', .int .i64 a', .string (bs l'), w'] := push_boxA
  have b1 := (b1.keep k2).mono (upA k2)
  generalize hH2 : H1.push ⟨[.int .i64 k', .int .i64 e', .int .i64 a', .string (bs l'), w'], 1, true⟩ = H2 at *
  have w2 := (hw.up k1).up k2
  have w2' := (hw'.up k1).up k2
  obtain ⟨a, H3, c1, c2, c3⟩ := ask_ok (k := k) (l := l) w2 hl
  obtain ⟨wx, H4, d1, d2, d3⟩ := asked_ok c2.sl (askP_byte hx) (Nat.le_trans askP_most (by omega))
  have hax := askedP_byte (askP_byte (k := k) (l := l) hx)
  have hback : ckA k l x.length = 0 → askedP (askP k l x) = (⟨k, l, x⟩, 0) := fun h => by
    have : askP k l x = wrA k l x := by simp [askP, h]
    rw [this]; exact back_ask h
  have hnone : ckA k l x.length ≠ 0 → askP k l x = [] := fun h => by simp [askP, h]
  generalize hX : (askedP (askP k l x)).1 = X at *
  generalize hXe : (askedP (askP k l x)).2 = Xe at *
  have k5 : Keep (all H4) H4 (H4.push ⟨[.int .i64 X.k, .string (bs X.l), wx], 1, true⟩) := push_keep
  have b5 : Box (all (H4.push ⟨[.int .i64 X.k, .string (bs X.l), wx], 1, true⟩)) (H4.push ⟨[.int .i64 X.k, .string (bs X.l), wx], 1, true⟩) H4.n [.int .i64 X.k, .string (bs X.l), wx] := push_boxA
  have s5 : stV 3 (ptr H4.n 0) (rqV X.k X.l wx) (H4.push ⟨[.int .i64 0, .string (bs []), nilS], 1, true⟩) = some (undef, H4.push ⟨[.int .i64 X.k, .string (bs X.l), wx], 1, true⟩) := stA_push (ds := [.int .i64 X.k, .string (bs X.l), wx]) rfl rfl (all3 d2.oneC.1)
  generalize hH5 : H4.push ⟨[.int .i64 X.k, .string (bs X.l), wx], 1, true⟩ = H5 at *
  have K25 : Keep (all H2) H2 H5 := c3.tr (d3.tr k5)
  have b2' := (b2.keep K25).mono (upA K25)
  obtain ⟨b, H6, e1, e2, e3⟩ := ans_ok (k := k') (e := e') (a := a') (l := l') (w2'.up K25)
  obtain ⟨wy, H7, g1, g2, g3⟩ := ansd_ok e2.sl (ansP_byte hx') (Nat.le_trans ansP_most (by omega))
  have hay := ansdP_byte (ansP_byte (k := k') (e := e') (a := a') (l := l') hx')
  have hback' : ckB k' e' a' l' x'.length = 0 → ansdP (ansP k' e' a' l' x') = (⟨k', e', a', l', x'⟩, 0) := fun h => by
    have : ansP k' e' a' l' x' = wrB k' e' a' l' x' := by simp [ansP, h]
    rw [this]; exact back_ans h
  have hnone' : ckB k' e' a' l' x'.length ≠ 0 → ansP k' e' a' l' x' = [] := fun h => by simp [ansP, h]
  generalize hZ : (ansdP (ansP k' e' a' l' x')).1 = Z at *
  generalize hZe : (ansdP (ansP k' e' a' l' x')).2 = Ze at *
  have k8 : Keep (all H7) H7 (H7.push ⟨[.int .i64 Z.k, .int .i64 Z.e, .int .i64 Z.a, .string (bs Z.l), wy], 1, true⟩) := push_keep
  have b8 : Box (all (H7.push ⟨[.int .i64 Z.k, .int .i64 Z.e, .int .i64 Z.a, .string (bs Z.l), wy], 1, true⟩)) (H7.push ⟨[.int .i64 Z.k, .int .i64 Z.e, .int .i64 Z.a, .string (bs Z.l), wy], 1, true⟩) H7.n [.int .i64 Z.k, .int .i64 Z.e, .int .i64 Z.a, .string (bs Z.l), wy] := push_boxA
  have s8 : stV 5 (ptr H7.n 0) (rpV Z.k Z.e Z.a Z.l wy) (H7.push ⟨[.int .i64 0, .int .i64 0, .int .i64 0, .string (bs []), nilS], 1, true⟩) = some (undef, H7.push ⟨[.int .i64 Z.k, .int .i64 Z.e, .int .i64 Z.a, .string (bs Z.l), wy], 1, true⟩) := stA_push (ds := [.int .i64 Z.k, .int .i64 Z.e, .int .i64 Z.a, .string (bs Z.l), wy]) rfl rfl (all5 g2.oneC.1)
  generalize hH8 : H7.push ⟨[.int .i64 Z.k, .int .i64 Z.e, .int .i64 Z.a, .string (bs Z.l), wy], 1, true⟩ = H8 at *
  have K58 : Keep (all H5) H5 H8 := e3.tr (g3.tr k8)
  have B1 := (b1.keep (K25.tr K58)).mono (upA (K25.tr K58))
  have B2 := (b2'.keep K58).mono (upA K58)
  have B5 := (b5.keep K58).mono (upA K58)
  have W8 := (w2.up K25).up K58
  have W8' := (w2'.up K25).up K58
  have X8 := (d2.sl.up k5).up K58
  have Y8 := g2.sl.up k8
  have A8 := ((c2.sl.up d3).up k5).up K58
  have A8' := (e2.sl.up g3).up k8
  by_cases h0 : ckA k l x.length = 0
  · by_cases h1 : ckB k' e' a' l' x'.length = 0
    · have hb := hback h0
      rw [hb] at hX hXe
      subst hX hXe
      obtain ⟨H9, m1, m2⟩ := sameask_ok (k := k) (k' := k) (l := l) (l' := l) X8 W8 hx hx
      rw [dec_self, dec_self, dec_self] at m1
      have hb' := hback' h1
      rw [hb'] at hZ hZe
      subst hZ hZe
      obtain ⟨H10, n1, n2⟩ := sameans_ok (k := k') (k' := k') (e := e') (e' := e') (a := a') (a' := a') (l := l') (l' := l') (Y8.up m2) (W8'.up m2) hx' hx'
      rw [dec_self, dec_self, dec_self, dec_self, dec_self] at n1
      refine ⟨H10, ?_, k1.tr (k2.tr (K25.tr (K58.tr (m2.tr n2))))⟩
      refine Ev.enter (fun n => f6_eq rfl n _ _ _) ?_
      simp only [f6, real_b, real_i, real_c, chk_t, bnd_some, bnd_up, iff_t, iff_f, gd_t, gd_f, wd_b, wd_u, pick_t, pick_f, b_lss, b_leq, b_gtr, b_geq, b_eql, b_neq, b_seql, b_sneq, b_add, b_sub, u_not, nilC_ptr, fAddr_ptr, Nat.zero_add, extr0, extr1, extr2, lenStr, decide_true, decide_false, bt_tt, bt_tf, bt_ft, bt_ff, bt_bne, Bool.not_true, Bool.not_false, Int.reduceBEq, Int.reduceBNe, extr30, extr31, rq_new hw.oneC, hH1, rp_new hw'.oneC, hH2, b1.all (n := 3) rfl]
      refine Ev.callC c1 ?_
      simp only [real_b, real_i, real_c, chk_t, bnd_some, bnd_up, iff_t, iff_f, gd_t, gd_f, wd_b, wd_u, pick_t, pick_f, b_lss, b_leq, b_gtr, b_geq, b_eql, b_neq, b_seql, b_sneq, b_add, b_sub, u_not, nilC_ptr, fAddr_ptr, Nat.zero_add, extr0, extr1, extr2, lenStr, decide_true, decide_false, bt_tt, bt_tf, bt_ft, bt_ff, bt_bne, Bool.not_true, Bool.not_false, Int.reduceBEq, Int.reduceBNe, extr30, extr31]
      refine Ev.callC d1 ?_
      simp only [real_b, real_i, real_c, chk_t, bnd_some, bnd_up, iff_t, iff_f, gd_t, gd_f, wd_b, wd_u, pick_t, pick_f, b_lss, b_leq, b_gtr, b_geq, b_eql, b_neq, b_seql, b_sneq, b_add, b_sub, u_not, nilC_ptr, fAddr_ptr, Nat.zero_add, extr0, extr1, extr2, lenStr, decide_true, decide_false, bt_tt, bt_tf, bt_ft, bt_ff, bt_bne, Bool.not_true, Bool.not_false, Int.reduceBEq, Int.reduceBNe, extr30, extr31, new3z, s5, hH5, b2'.all (n := 5) rfl]
      refine Ev.callC e1 ?_
      simp only [real_b, real_i, real_c, chk_t, bnd_some, bnd_up, iff_t, iff_f, gd_t, gd_f, wd_b, wd_u, pick_t, pick_f, b_lss, b_leq, b_gtr, b_geq, b_eql, b_neq, b_seql, b_sneq, b_add, b_sub, u_not, nilC_ptr, fAddr_ptr, Nat.zero_add, extr0, extr1, extr2, lenStr, decide_true, decide_false, bt_tt, bt_tf, bt_ft, bt_ff, bt_bne, Bool.not_true, Bool.not_false, Int.reduceBEq, Int.reduceBNe, extr30, extr31]
      refine Ev.callC g1 ?_
      simp only [real_b, real_i, real_c, chk_t, bnd_some, bnd_up, iff_t, iff_f, gd_t, gd_f, wd_b, wd_u, pick_t, pick_f, b_lss, b_leq, b_gtr, b_geq, b_eql, b_neq, b_seql, b_sneq, b_add, b_sub, u_not, nilC_ptr, fAddr_ptr, Nat.zero_add, extr0, extr1, extr2, lenStr, decide_true, decide_false, bt_tt, bt_tf, bt_ft, bt_ff, bt_bne, Bool.not_true, Bool.not_false, Int.reduceBEq, Int.reduceBNe, extr30, extr31, new5z, s8, hH8, h0, z_bne, z_beq, B5.all (n := 3) rfl, B1.all (n := 3) rfl, Bool.and_self]
      refine Ev.callC m1 ?_
      simp only [real_b, real_i, real_c, chk_t, bnd_some, bnd_up, iff_t, iff_f, gd_t, gd_f, wd_b, wd_u, pick_t, pick_f, b_lss, b_leq, b_gtr, b_geq, b_eql, b_neq, b_seql, b_sneq, b_add, b_sub, u_not, nilC_ptr, fAddr_ptr, Nat.zero_add, extr0, extr1, extr2, lenStr, decide_true, decide_false, bt_tt, bt_tf, bt_ft, bt_ff, bt_bne, Bool.not_true, Bool.not_false, Int.reduceBEq, Int.reduceBNe, extr30, extr31, Bool.and_self, h1, z_bne, z_beq, (b8.keep m2).all (n := 5) rfl, (B2.keep m2).all (n := 5) rfl, Bool.and_self]
      refine Ev.callC n1 ?_
      simp only [real_b, real_i, real_c, chk_t, bnd_some, bnd_up, iff_t, iff_f, gd_t, gd_f, wd_b, wd_u, pick_t, pick_f, b_lss, b_leq, b_gtr, b_geq, b_eql, b_neq, b_seql, b_sneq, b_add, b_sub, u_not, nilC_ptr, fAddr_ptr, Nat.zero_add, extr0, extr1, extr2, lenStr, decide_true, decide_false, bt_tt, bt_tf, bt_ft, bt_ff, bt_bne, Bool.not_true, Bool.not_false, Int.reduceBEq, Int.reduceBNe, extr30, extr31, Bool.and_self]
      refine Ev.callC (awake_ok _) ?_
      exact Ev.pure _
    · have hb := hback h0
      rw [hb] at hX hXe
      subst hX hXe
      obtain ⟨H9, m1, m2⟩ := sameask_ok (k := k) (k' := k) (l := l) (l' := l) X8 W8 hx hx
      rw [dec_self, dec_self, dec_self] at m1
      have hb' := hnone' h1
      obtain ⟨H10, n1, n2⟩ := ans_may (k := k') (e := e') (a := a') (l := l') (n := x'.length) (W8'.up m2)
      refine ⟨H10, ?_, k1.tr (k2.tr (K25.tr (K58.tr (m2.tr n2))))⟩
      refine Ev.enter (fun n => f6_eq rfl n _ _ _) ?_
      simp only [f6, real_b, real_i, real_c, chk_t, bnd_some, bnd_up, iff_t, iff_f, gd_t, gd_f, wd_b, wd_u, pick_t, pick_f, b_lss, b_leq, b_gtr, b_geq, b_eql, b_neq, b_seql, b_sneq, b_add, b_sub, u_not, nilC_ptr, fAddr_ptr, Nat.zero_add, extr0, extr1, extr2, lenStr, decide_true, decide_false, bt_tt, bt_tf, bt_ft, bt_ff, bt_bne, Bool.not_true, Bool.not_false, Int.reduceBEq, Int.reduceBNe, extr30, extr31, rq_new hw.oneC, hH1, rp_new hw'.oneC, hH2, b1.all (n := 3) rfl]
      refine Ev.callC c1 ?_
      simp only [real_b, real_i, real_c, chk_t, bnd_some, bnd_up, iff_t, iff_f, gd_t, gd_f, wd_b, wd_u, pick_t, pick_f, b_lss, b_leq, b_gtr, b_geq, b_eql, b_neq, b_seql, b_sneq, b_add, b_sub, u_not, nilC_ptr, fAddr_ptr, Nat.zero_add, extr0, extr1, extr2, lenStr, decide_true, decide_false, bt_tt, bt_tf, bt_ft, bt_ff, bt_bne, Bool.not_true, Bool.not_false, Int.reduceBEq, Int.reduceBNe, extr30, extr31]
      refine Ev.callC d1 ?_
      simp only [real_b, real_i, real_c, chk_t, bnd_some, bnd_up, iff_t, iff_f, gd_t, gd_f, wd_b, wd_u, pick_t, pick_f, b_lss, b_leq, b_gtr, b_geq, b_eql, b_neq, b_seql, b_sneq, b_add, b_sub, u_not, nilC_ptr, fAddr_ptr, Nat.zero_add, extr0, extr1, extr2, lenStr, decide_true, decide_false, bt_tt, bt_tf, bt_ft, bt_ff, bt_bne, Bool.not_true, Bool.not_false, Int.reduceBEq, Int.reduceBNe, extr30, extr31, new3z, s5, hH5, b2'.all (n := 5) rfl]
      refine Ev.callC e1 ?_
      simp only [real_b, real_i, real_c, chk_t, bnd_some, bnd_up, iff_t, iff_f, gd_t, gd_f, wd_b, wd_u, pick_t, pick_f, b_lss, b_leq, b_gtr, b_geq, b_eql, b_neq, b_seql, b_sneq, b_add, b_sub, u_not, nilC_ptr, fAddr_ptr, Nat.zero_add, extr0, extr1, extr2, lenStr, decide_true, decide_false, bt_tt, bt_tf, bt_ft, bt_ff, bt_bne, Bool.not_true, Bool.not_false, Int.reduceBEq, Int.reduceBNe, extr30, extr31]
      refine Ev.callC g1 ?_
      simp only [real_b, real_i, real_c, chk_t, bnd_some, bnd_up, iff_t, iff_f, gd_t, gd_f, wd_b, wd_u, pick_t, pick_f, b_lss, b_leq, b_gtr, b_geq, b_eql, b_neq, b_seql, b_sneq, b_add, b_sub, u_not, nilC_ptr, fAddr_ptr, Nat.zero_add, extr0, extr1, extr2, lenStr, decide_true, decide_false, bt_tt, bt_tf, bt_ft, bt_ff, bt_bne, Bool.not_true, Bool.not_false, Int.reduceBEq, Int.reduceBNe, extr30, extr31, new5z, s8, hH8, h0, z_bne, z_beq, B5.all (n := 3) rfl, B1.all (n := 3) rfl, Bool.and_self]
      refine Ev.callC m1 ?_
      simp only [real_b, real_i, real_c, chk_t, bnd_some, bnd_up, iff_t, iff_f, gd_t, gd_f, wd_b, wd_u, pick_t, pick_f, b_lss, b_leq, b_gtr, b_geq, b_eql, b_neq, b_seql, b_sneq, b_add, b_sub, u_not, nilC_ptr, fAddr_ptr, Nat.zero_add, extr0, extr1, extr2, lenStr, decide_true, decide_false, bt_tt, bt_tf, bt_ft, bt_ff, bt_bne, Bool.not_true, Bool.not_false, Int.reduceBEq, Int.reduceBNe, extr30, extr31, Bool.and_self, ne0 h1, eq0 h1, (B2.keep m2).all (n := 5) rfl]
      refine Ev.callC n1 ?_
      simp only [real_b, real_i, real_c, chk_t, bnd_some, bnd_up, iff_t, iff_f, gd_t, gd_f, wd_b, wd_u, pick_t, pick_f, b_lss, b_leq, b_gtr, b_geq, b_eql, b_neq, b_seql, b_sneq, b_add, b_sub, u_not, nilC_ptr, fAddr_ptr, Nat.zero_add, extr0, extr1, extr2, lenStr, decide_true, decide_false, bt_tt, bt_tf, bt_ft, bt_ff, bt_bne, Bool.not_true, Bool.not_false, Int.reduceBEq, Int.reduceBNe, extr30, extr31, bne_self', A8'.lenS, hb', nil_bne, ne0 h1, eq0 h1]
      refine Ev.callC (awake_ok _) ?_
      exact Ev.pure _
  · by_cases h1 : ckB k' e' a' l' x'.length = 0
    · have hb := hnone h0
      obtain ⟨H9, m1, m2⟩ := ask_may (k := k) (l := l) (n := x.length) W8 hl
      have hb' := hback' h1
      rw [hb'] at hZ hZe
      subst hZ hZe
      obtain ⟨H10, n1, n2⟩ := sameans_ok (k := k') (k' := k') (e := e') (e' := e') (a := a') (a' := a') (l := l') (l' := l') (Y8.up m2) (W8'.up m2) hx' hx'
      rw [dec_self, dec_self, dec_self, dec_self, dec_self] at n1
      refine ⟨H10, ?_, k1.tr (k2.tr (K25.tr (K58.tr (m2.tr n2))))⟩
      refine Ev.enter (fun n => f6_eq rfl n _ _ _) ?_
      simp only [f6, real_b, real_i, real_c, chk_t, bnd_some, bnd_up, iff_t, iff_f, gd_t, gd_f, wd_b, wd_u, pick_t, pick_f, b_lss, b_leq, b_gtr, b_geq, b_eql, b_neq, b_seql, b_sneq, b_add, b_sub, u_not, nilC_ptr, fAddr_ptr, Nat.zero_add, extr0, extr1, extr2, lenStr, decide_true, decide_false, bt_tt, bt_tf, bt_ft, bt_ff, bt_bne, Bool.not_true, Bool.not_false, Int.reduceBEq, Int.reduceBNe, extr30, extr31, rq_new hw.oneC, hH1, rp_new hw'.oneC, hH2, b1.all (n := 3) rfl]
      refine Ev.callC c1 ?_
      simp only [real_b, real_i, real_c, chk_t, bnd_some, bnd_up, iff_t, iff_f, gd_t, gd_f, wd_b, wd_u, pick_t, pick_f, b_lss, b_leq, b_gtr, b_geq, b_eql, b_neq, b_seql, b_sneq, b_add, b_sub, u_not, nilC_ptr, fAddr_ptr, Nat.zero_add, extr0, extr1, extr2, lenStr, decide_true, decide_false, bt_tt, bt_tf, bt_ft, bt_ff, bt_bne, Bool.not_true, Bool.not_false, Int.reduceBEq, Int.reduceBNe, extr30, extr31]
      refine Ev.callC d1 ?_
      simp only [real_b, real_i, real_c, chk_t, bnd_some, bnd_up, iff_t, iff_f, gd_t, gd_f, wd_b, wd_u, pick_t, pick_f, b_lss, b_leq, b_gtr, b_geq, b_eql, b_neq, b_seql, b_sneq, b_add, b_sub, u_not, nilC_ptr, fAddr_ptr, Nat.zero_add, extr0, extr1, extr2, lenStr, decide_true, decide_false, bt_tt, bt_tf, bt_ft, bt_ff, bt_bne, Bool.not_true, Bool.not_false, Int.reduceBEq, Int.reduceBNe, extr30, extr31, new3z, s5, hH5, b2'.all (n := 5) rfl]
      refine Ev.callC e1 ?_
      simp only [real_b, real_i, real_c, chk_t, bnd_some, bnd_up, iff_t, iff_f, gd_t, gd_f, wd_b, wd_u, pick_t, pick_f, b_lss, b_leq, b_gtr, b_geq, b_eql, b_neq, b_seql, b_sneq, b_add, b_sub, u_not, nilC_ptr, fAddr_ptr, Nat.zero_add, extr0, extr1, extr2, lenStr, decide_true, decide_false, bt_tt, bt_tf, bt_ft, bt_ff, bt_bne, Bool.not_true, Bool.not_false, Int.reduceBEq, Int.reduceBNe, extr30, extr31]
      refine Ev.callC g1 ?_
      simp only [real_b, real_i, real_c, chk_t, bnd_some, bnd_up, iff_t, iff_f, gd_t, gd_f, wd_b, wd_u, pick_t, pick_f, b_lss, b_leq, b_gtr, b_geq, b_eql, b_neq, b_seql, b_sneq, b_add, b_sub, u_not, nilC_ptr, fAddr_ptr, Nat.zero_add, extr0, extr1, extr2, lenStr, decide_true, decide_false, bt_tt, bt_tf, bt_ft, bt_ff, bt_bne, Bool.not_true, Bool.not_false, Int.reduceBEq, Int.reduceBNe, extr30, extr31, new5z, s8, hH8, ne0 h0, eq0 h0, B1.all (n := 3) rfl]
      refine Ev.callC m1 ?_
      simp only [real_b, real_i, real_c, chk_t, bnd_some, bnd_up, iff_t, iff_f, gd_t, gd_f, wd_b, wd_u, pick_t, pick_f, b_lss, b_leq, b_gtr, b_geq, b_eql, b_neq, b_seql, b_sneq, b_add, b_sub, u_not, nilC_ptr, fAddr_ptr, Nat.zero_add, extr0, extr1, extr2, lenStr, decide_true, decide_false, bt_tt, bt_tf, bt_ft, bt_ff, bt_bne, Bool.not_true, Bool.not_false, Int.reduceBEq, Int.reduceBNe, extr30, extr31, bne_self', A8.lenS, hb, nil_bne, ne0 h0, eq0 h0, h1, z_bne, z_beq, (b8.keep m2).all (n := 5) rfl, (B2.keep m2).all (n := 5) rfl, Bool.and_self]
      refine Ev.callC n1 ?_
      simp only [real_b, real_i, real_c, chk_t, bnd_some, bnd_up, iff_t, iff_f, gd_t, gd_f, wd_b, wd_u, pick_t, pick_f, b_lss, b_leq, b_gtr, b_geq, b_eql, b_neq, b_seql, b_sneq, b_add, b_sub, u_not, nilC_ptr, fAddr_ptr, Nat.zero_add, extr0, extr1, extr2, lenStr, decide_true, decide_false, bt_tt, bt_tf, bt_ft, bt_ff, bt_bne, Bool.not_true, Bool.not_false, Int.reduceBEq, Int.reduceBNe, extr30, extr31, Bool.and_self]
      refine Ev.callC (awake_ok _) ?_
      exact Ev.pure _
    · have hb := hnone h0
      obtain ⟨H9, m1, m2⟩ := ask_may (k := k) (l := l) (n := x.length) W8 hl
      have hb' := hnone' h1
      obtain ⟨H10, n1, n2⟩ := ans_may (k := k') (e := e') (a := a') (l := l') (n := x'.length) (W8'.up m2)
      refine ⟨H10, ?_, k1.tr (k2.tr (K25.tr (K58.tr (m2.tr n2))))⟩
      refine Ev.enter (fun n => f6_eq rfl n _ _ _) ?_
      simp only [f6, real_b, real_i, real_c, chk_t, bnd_some, bnd_up, iff_t, iff_f, gd_t, gd_f, wd_b, wd_u, pick_t, pick_f, b_lss, b_leq, b_gtr, b_geq, b_eql, b_neq, b_seql, b_sneq, b_add, b_sub, u_not, nilC_ptr, fAddr_ptr, Nat.zero_add, extr0, extr1, extr2, lenStr, decide_true, decide_false, bt_tt, bt_tf, bt_ft, bt_ff, bt_bne, Bool.not_true, Bool.not_false, Int.reduceBEq, Int.reduceBNe, extr30, extr31, rq_new hw.oneC, hH1, rp_new hw'.oneC, hH2, b1.all (n := 3) rfl]
      refine Ev.callC c1 ?_
      simp only [real_b, real_i, real_c, chk_t, bnd_some, bnd_up, iff_t, iff_f, gd_t, gd_f, wd_b, wd_u, pick_t, pick_f, b_lss, b_leq, b_gtr, b_geq, b_eql, b_neq, b_seql, b_sneq, b_add, b_sub, u_not, nilC_ptr, fAddr_ptr, Nat.zero_add, extr0, extr1, extr2, lenStr, decide_true, decide_false, bt_tt, bt_tf, bt_ft, bt_ff, bt_bne, Bool.not_true, Bool.not_false, Int.reduceBEq, Int.reduceBNe, extr30, extr31]
      refine Ev.callC d1 ?_
      simp only [real_b, real_i, real_c, chk_t, bnd_some, bnd_up, iff_t, iff_f, gd_t, gd_f, wd_b, wd_u, pick_t, pick_f, b_lss, b_leq, b_gtr, b_geq, b_eql, b_neq, b_seql, b_sneq, b_add, b_sub, u_not, nilC_ptr, fAddr_ptr, Nat.zero_add, extr0, extr1, extr2, lenStr, decide_true, decide_false, bt_tt, bt_tf, bt_ft, bt_ff, bt_bne, Bool.not_true, Bool.not_false, Int.reduceBEq, Int.reduceBNe, extr30, extr31, new3z, s5, hH5, b2'.all (n := 5) rfl]
      refine Ev.callC e1 ?_
      simp only [real_b, real_i, real_c, chk_t, bnd_some, bnd_up, iff_t, iff_f, gd_t, gd_f, wd_b, wd_u, pick_t, pick_f, b_lss, b_leq, b_gtr, b_geq, b_eql, b_neq, b_seql, b_sneq, b_add, b_sub, u_not, nilC_ptr, fAddr_ptr, Nat.zero_add, extr0, extr1, extr2, lenStr, decide_true, decide_false, bt_tt, bt_tf, bt_ft, bt_ff, bt_bne, Bool.not_true, Bool.not_false, Int.reduceBEq, Int.reduceBNe, extr30, extr31]
      refine Ev.callC g1 ?_
      simp only [real_b, real_i, real_c, chk_t, bnd_some, bnd_up, iff_t, iff_f, gd_t, gd_f, wd_b, wd_u, pick_t, pick_f, b_lss, b_leq, b_gtr, b_geq, b_eql, b_neq, b_seql, b_sneq, b_add, b_sub, u_not, nilC_ptr, fAddr_ptr, Nat.zero_add, extr0, extr1, extr2, lenStr, decide_true, decide_false, bt_tt, bt_tf, bt_ft, bt_ff, bt_bne, Bool.not_true, Bool.not_false, Int.reduceBEq, Int.reduceBNe, extr30, extr31, new5z, s8, hH8, ne0 h0, eq0 h0, B1.all (n := 3) rfl]
      refine Ev.callC m1 ?_
      simp only [real_b, real_i, real_c, chk_t, bnd_some, bnd_up, iff_t, iff_f, gd_t, gd_f, wd_b, wd_u, pick_t, pick_f, b_lss, b_leq, b_gtr, b_geq, b_eql, b_neq, b_seql, b_sneq, b_add, b_sub, u_not, nilC_ptr, fAddr_ptr, Nat.zero_add, extr0, extr1, extr2, lenStr, decide_true, decide_false, bt_tt, bt_tf, bt_ft, bt_ff, bt_bne, Bool.not_true, Bool.not_false, Int.reduceBEq, Int.reduceBNe, extr30, extr31, bne_self', A8.lenS, hb, nil_bne, ne0 h0, eq0 h0, ne0 h1, eq0 h1, (B2.keep m2).all (n := 5) rfl]
      refine Ev.callC n1 ?_
      simp only [real_b, real_i, real_c, chk_t, bnd_some, bnd_up, iff_t, iff_f, gd_t, gd_f, wd_b, wd_u, pick_t, pick_f, b_lss, b_leq, b_gtr, b_geq, b_eql, b_neq, b_seql, b_sneq, b_add, b_sub, u_not, nilC_ptr, fAddr_ptr, Nat.zero_add, extr0, extr1, extr2, lenStr, decide_true, decide_false, bt_tt, bt_tf, bt_ft, bt_ff, bt_bne, Bool.not_true, Bool.not_false, Int.reduceBEq, Int.reduceBNe, extr30, extr31, bne_self', A8'.lenS, hb', nil_bne, ne0 h1, eq0 h1]
      refine Ev.callC (awake_ok _) ?_
      exact Ev.pure _
theorem just_law {H : Heap} {d : List Nat} {v : Value} (hv : By H d v) (hd : ∀ c ∈ d, c < 256) (hm : d.length ≤ mostBytes) : ∃ H', Cl 7 [v] H (.bool true) H' := by
  have hmm : mostBytes = 140737488355328 := rfl
  obtain ⟨wx, H4, d1, d2, d3⟩ := asked_ok hv hd hm
  have hjx := just_ask hd
  have hax := askedP_byte hd
  have hal := askedP_len d
  have hll : (askedP d).1.l.length < 9223372036854775807 := by
    rcases askedP_says d with h | h
    · have := ckA_ok (hjx h).1; omega
    · rw [h.2]; simp
  generalize hX : (askedP d).1 = X at *
  generalize hXe : (askedP d).2 = Xe at *
  have k5 : Keep (all H4) H4 (H4.push ⟨[.int .i64 X.k, .string (bs X.l), wx], 1, true⟩) := push_keep
  have b5 : Box (all (H4.push ⟨[.int .i64 X.k, .string (bs X.l), wx], 1, true⟩)) (H4.push ⟨[.int .i64 X.k, .string (bs X.l), wx], 1, true⟩) H4.n [.int .i64 X.k, .string (bs X.l), wx] := push_boxA
  have s5 : stV 3 (ptr H4.n 0) (rqV X.k X.l wx) (H4.push ⟨[.int .i64 0, .string (bs []), nilS], 1, true⟩) = some (undef, H4.push ⟨[.int .i64 X.k, .string (bs X.l), wx], 1, true⟩) := stA_push (ds := [.int .i64 X.k, .string (bs X.l), wx]) rfl rfl (all3 d2.oneC.1)
  generalize hH5 : H4.push ⟨[.int .i64 X.k, .string (bs X.l), wx], 1, true⟩ = H5 at *
  have v5 := (hv.up d3).up k5
  obtain ⟨wy, H7, g1, g2, g3⟩ := ansd_ok v5 hd hm
  have hjy := just_ans hd
  generalize hZ : (ansdP d).1 = Z at *
  generalize hZe : (ansdP d).2 = Ze at *
  have k8 : Keep (all H7) H7 (H7.push ⟨[.int .i64 Z.k, .int .i64 Z.e, .int .i64 Z.a, .string (bs Z.l), wy], 1, true⟩) := push_keep
  have b8 : Box (all (H7.push ⟨[.int .i64 Z.k, .int .i64 Z.e, .int .i64 Z.a, .string (bs Z.l), wy], 1, true⟩)) (H7.push ⟨[.int .i64 Z.k, .int .i64 Z.e, .int .i64 Z.a, .string (bs Z.l), wy], 1, true⟩) H7.n [.int .i64 Z.k, .int .i64 Z.e, .int .i64 Z.a, .string (bs Z.l), wy] := push_boxA
  have s8 : stV 5 (ptr H7.n 0) (rpV Z.k Z.e Z.a Z.l wy) (H7.push ⟨[.int .i64 0, .int .i64 0, .int .i64 0, .string (bs []), nilS], 1, true⟩) = some (undef, H7.push ⟨[.int .i64 Z.k, .int .i64 Z.e, .int .i64 Z.a, .string (bs Z.l), wy], 1, true⟩) := stA_push (ds := [.int .i64 Z.k, .int .i64 Z.e, .int .i64 Z.a, .string (bs Z.l), wy]) rfl rfl (all5 g2.oneC.1)
  generalize hH8 : H7.push ⟨[.int .i64 Z.k, .int .i64 Z.e, .int .i64 Z.a, .string (bs Z.l), wy], 1, true⟩ = H8 at *
  have K58 : Keep (all H5) H5 H8 := g3.tr k8
  have B5 := (b5.keep K58).mono (upA K58)
  have X8 := (d2.sl.up k5).up K58
  have Y8 := g2.sl.up k8
  have V8 := v5.up K58
  by_cases h0 : Xe = 0
  · by_cases h1 : Ze = 0
    · obtain ⟨j1, j2, _⟩ := hjx h0
      obtain ⟨a, H9, m1, m2, m3⟩ := ask_ok (k := X.k) (l := X.l) X8 hll
      have hP : askP X.k X.l X.x = d := by simp [askP, j1, j2]
      rw [hP] at m2
      rw [j1] at m1
      have q := eq_ok m2.sl (V8.up m3) (by omega)
      rw [dec_self] at q
      obtain ⟨i1, i2, _⟩ := hjy h1
      obtain ⟨b, H10, n1, n2, n3⟩ := ans_ok (k := Z.k) (e := Z.e) (a := Z.a) (l := Z.l) (Y8.up m3)
      have hQ : ansP Z.k Z.e Z.a Z.l Z.x = d := by simp [ansP, i1, i2]
      rw [hQ] at n2
      rw [i1] at n1
      have q' := eq_ok n2.sl ((V8.up m3).up n3) (by omega)
      rw [dec_self] at q'
      refine ⟨H10, ?_⟩
      refine Ev.enter (fun n => f7_eq rfl n _ _) ?_
      simp only [f7, real_b, real_i, real_c]
      refine Ev.callC d1 ?_
      simp only [real_b, real_i, real_c, chk_t, bnd_some, bnd_up, iff_t, iff_f, gd_t, gd_f, wd_b, wd_u, pick_t, pick_f, b_lss, b_leq, b_gtr, b_geq, b_eql, b_neq, b_seql, b_sneq, b_add, b_sub, u_not, nilC_ptr, fAddr_ptr, Nat.zero_add, extr0, extr1, extr2, lenStr, decide_true, decide_false, bt_tt, bt_tf, bt_ft, bt_ff, bt_bne, Bool.not_true, Bool.not_false, Int.reduceBEq, Int.reduceBNe, extr30, extr31, new3z, s5, hH5]
      refine Ev.callC g1 ?_
      simp only [real_b, real_i, real_c, chk_t, bnd_some, bnd_up, iff_t, iff_f, gd_t, gd_f, wd_b, wd_u, pick_t, pick_f, b_lss, b_leq, b_gtr, b_geq, b_eql, b_neq, b_seql, b_sneq, b_add, b_sub, u_not, nilC_ptr, fAddr_ptr, Nat.zero_add, extr0, extr1, extr2, lenStr, decide_true, decide_false, bt_tt, bt_tf, bt_ft, bt_ff, bt_bne, Bool.not_true, Bool.not_false, Int.reduceBEq, Int.reduceBNe, extr30, extr31, new5z, s8, hH8, h0, z_beq, B5.all (n := 3) rfl]
      refine Ev.callC m1 ?_
      simp only [real_b, real_i, real_c, chk_t, bnd_some, bnd_up, iff_t, iff_f, gd_t, gd_f, wd_b, wd_u, pick_t, pick_f, b_lss, b_leq, b_gtr, b_geq, b_eql, b_neq, b_seql, b_sneq, b_add, b_sub, u_not, nilC_ptr, fAddr_ptr, Nat.zero_add, extr0, extr1, extr2, lenStr, decide_true, decide_false, bt_tt, bt_tf, bt_ft, bt_ff, bt_bne, Bool.not_true, Bool.not_false, Int.reduceBEq, Int.reduceBNe, extr30, extr31, z_bne]
      refine Ev.callC q ?_
      simp only [real_b, real_i, real_c, chk_t, bnd_some, bnd_up, iff_t, iff_f, gd_t, gd_f, wd_b, wd_u, pick_t, pick_f, b_lss, b_leq, b_gtr, b_geq, b_eql, b_neq, b_seql, b_sneq, b_add, b_sub, u_not, nilC_ptr, fAddr_ptr, Nat.zero_add, extr0, extr1, extr2, lenStr, decide_true, decide_false, bt_tt, bt_tf, bt_ft, bt_ff, bt_bne, Bool.not_true, Bool.not_false, Int.reduceBEq, Int.reduceBNe, extr30, extr31, f7_J2, f7_J1, h1, z_beq, (b8.keep m3).all (n := 5) rfl]
      refine Ev.callC n1 ?_
      simp only [real_b, real_i, real_c, chk_t, bnd_some, bnd_up, iff_t, iff_f, gd_t, gd_f, wd_b, wd_u, pick_t, pick_f, b_lss, b_leq, b_gtr, b_geq, b_eql, b_neq, b_seql, b_sneq, b_add, b_sub, u_not, nilC_ptr, fAddr_ptr, Nat.zero_add, extr0, extr1, extr2, lenStr, decide_true, decide_false, bt_tt, bt_tf, bt_ft, bt_ff, bt_bne, Bool.not_true, Bool.not_false, Int.reduceBEq, Int.reduceBNe, extr30, extr31, z_bne]
      refine Ev.callC q' ?_
      simp only [real_b, real_i, real_c, chk_t, bnd_some, bnd_up, iff_t, iff_f, gd_t, gd_f, wd_b, wd_u, pick_t, pick_f, b_lss, b_leq, b_gtr, b_geq, b_eql, b_neq, b_seql, b_sneq, b_add, b_sub, u_not, nilC_ptr, fAddr_ptr, Nat.zero_add, extr0, extr1, extr2, lenStr, decide_true, decide_false, bt_tt, bt_tf, bt_ft, bt_ff, bt_bne, Bool.not_true, Bool.not_false, Int.reduceBEq, Int.reduceBNe, extr30, extr31]
      refine Ev.callC (awake_ok _) ?_
      exact Ev.pure _
    · obtain ⟨j1, j2, _⟩ := hjx h0
      obtain ⟨a, H9, m1, m2, m3⟩ := ask_ok (k := X.k) (l := X.l) X8 hll
      have hP : askP X.k X.l X.x = d := by simp [askP, j1, j2]
      rw [hP] at m2
      rw [j1] at m1
      have q := eq_ok m2.sl (V8.up m3) (by omega)
      rw [dec_self] at q
      refine ⟨H9, ?_⟩
      refine Ev.enter (fun n => f7_eq rfl n _ _) ?_
      simp only [f7, real_b, real_i, real_c]
      refine Ev.callC d1 ?_
      simp only [real_b, real_i, real_c, chk_t, bnd_some, bnd_up, iff_t, iff_f, gd_t, gd_f, wd_b, wd_u, pick_t, pick_f, b_lss, b_leq, b_gtr, b_geq, b_eql, b_neq, b_seql, b_sneq, b_add, b_sub, u_not, nilC_ptr, fAddr_ptr, Nat.zero_add, extr0, extr1, extr2, lenStr, decide_true, decide_false, bt_tt, bt_tf, bt_ft, bt_ff, bt_bne, Bool.not_true, Bool.not_false, Int.reduceBEq, Int.reduceBNe, extr30, extr31, new3z, s5, hH5]
      refine Ev.callC g1 ?_
      simp only [real_b, real_i, real_c, chk_t, bnd_some, bnd_up, iff_t, iff_f, gd_t, gd_f, wd_b, wd_u, pick_t, pick_f, b_lss, b_leq, b_gtr, b_geq, b_eql, b_neq, b_seql, b_sneq, b_add, b_sub, u_not, nilC_ptr, fAddr_ptr, Nat.zero_add, extr0, extr1, extr2, lenStr, decide_true, decide_false, bt_tt, bt_tf, bt_ft, bt_ff, bt_bne, Bool.not_true, Bool.not_false, Int.reduceBEq, Int.reduceBNe, extr30, extr31, new5z, s8, hH8, h0, z_beq, B5.all (n := 3) rfl]
      refine Ev.callC m1 ?_
      simp only [real_b, real_i, real_c, chk_t, bnd_some, bnd_up, iff_t, iff_f, gd_t, gd_f, wd_b, wd_u, pick_t, pick_f, b_lss, b_leq, b_gtr, b_geq, b_eql, b_neq, b_seql, b_sneq, b_add, b_sub, u_not, nilC_ptr, fAddr_ptr, Nat.zero_add, extr0, extr1, extr2, lenStr, decide_true, decide_false, bt_tt, bt_tf, bt_ft, bt_ff, bt_bne, Bool.not_true, Bool.not_false, Int.reduceBEq, Int.reduceBNe, extr30, extr31, z_bne]
      refine Ev.callC q ?_
      simp only [real_b, real_i, real_c, chk_t, bnd_some, bnd_up, iff_t, iff_f, gd_t, gd_f, wd_b, wd_u, pick_t, pick_f, b_lss, b_leq, b_gtr, b_geq, b_eql, b_neq, b_seql, b_sneq, b_add, b_sub, u_not, nilC_ptr, fAddr_ptr, Nat.zero_add, extr0, extr1, extr2, lenStr, decide_true, decide_false, bt_tt, bt_tf, bt_ft, bt_ff, bt_bne, Bool.not_true, Bool.not_false, Int.reduceBEq, Int.reduceBNe, extr30, extr31, f7_J2, f7_J1, eq0 h1]
      refine Ev.callC (awake_ok _) ?_
      exact Ev.pure _
  · by_cases h1 : Ze = 0
    · obtain ⟨i1, i2, _⟩ := hjy h1
      obtain ⟨b, H10, n1, n2, n3⟩ := ans_ok (k := Z.k) (e := Z.e) (a := Z.a) (l := Z.l) Y8
      have hQ : ansP Z.k Z.e Z.a Z.l Z.x = d := by simp [ansP, i1, i2]
      rw [hQ] at n2
      rw [i1] at n1
      have q' := eq_ok n2.sl (V8.up n3) (by omega)
      rw [dec_self] at q'
      refine ⟨H10, ?_⟩
      refine Ev.enter (fun n => f7_eq rfl n _ _) ?_
      simp only [f7, real_b, real_i, real_c]
      refine Ev.callC d1 ?_
      simp only [real_b, real_i, real_c, chk_t, bnd_some, bnd_up, iff_t, iff_f, gd_t, gd_f, wd_b, wd_u, pick_t, pick_f, b_lss, b_leq, b_gtr, b_geq, b_eql, b_neq, b_seql, b_sneq, b_add, b_sub, u_not, nilC_ptr, fAddr_ptr, Nat.zero_add, extr0, extr1, extr2, lenStr, decide_true, decide_false, bt_tt, bt_tf, bt_ft, bt_ff, bt_bne, Bool.not_true, Bool.not_false, Int.reduceBEq, Int.reduceBNe, extr30, extr31, new3z, s5, hH5]
      refine Ev.callC g1 ?_
      simp only [real_b, real_i, real_c, chk_t, bnd_some, bnd_up, iff_t, iff_f, gd_t, gd_f, wd_b, wd_u, pick_t, pick_f, b_lss, b_leq, b_gtr, b_geq, b_eql, b_neq, b_seql, b_sneq, b_add, b_sub, u_not, nilC_ptr, fAddr_ptr, Nat.zero_add, extr0, extr1, extr2, lenStr, decide_true, decide_false, bt_tt, bt_tf, bt_ft, bt_ff, bt_bne, Bool.not_true, Bool.not_false, Int.reduceBEq, Int.reduceBNe, extr30, extr31, new5z, s8, hH8, eq0 h0, f7_J2, f7_J1, h1, z_beq, b8.all (n := 5) rfl]
      refine Ev.callC n1 ?_
      simp only [real_b, real_i, real_c, chk_t, bnd_some, bnd_up, iff_t, iff_f, gd_t, gd_f, wd_b, wd_u, pick_t, pick_f, b_lss, b_leq, b_gtr, b_geq, b_eql, b_neq, b_seql, b_sneq, b_add, b_sub, u_not, nilC_ptr, fAddr_ptr, Nat.zero_add, extr0, extr1, extr2, lenStr, decide_true, decide_false, bt_tt, bt_tf, bt_ft, bt_ff, bt_bne, Bool.not_true, Bool.not_false, Int.reduceBEq, Int.reduceBNe, extr30, extr31, z_bne]
      refine Ev.callC q' ?_
      simp only [real_b, real_i, real_c, chk_t, bnd_some, bnd_up, iff_t, iff_f, gd_t, gd_f, wd_b, wd_u, pick_t, pick_f, b_lss, b_leq, b_gtr, b_geq, b_eql, b_neq, b_seql, b_sneq, b_add, b_sub, u_not, nilC_ptr, fAddr_ptr, Nat.zero_add, extr0, extr1, extr2, lenStr, decide_true, decide_false, bt_tt, bt_tf, bt_ft, bt_ff, bt_bne, Bool.not_true, Bool.not_false, Int.reduceBEq, Int.reduceBNe, extr30, extr31]
      refine Ev.callC (awake_ok _) ?_
      exact Ev.pure _
    · refine ⟨H8, ?_⟩
      refine Ev.enter (fun n => f7_eq rfl n _ _) ?_
      simp only [f7, real_b, real_i, real_c]
      refine Ev.callC d1 ?_
      simp only [real_b, real_i, real_c, chk_t, bnd_some, bnd_up, iff_t, iff_f, gd_t, gd_f, wd_b, wd_u, pick_t, pick_f, b_lss, b_leq, b_gtr, b_geq, b_eql, b_neq, b_seql, b_sneq, b_add, b_sub, u_not, nilC_ptr, fAddr_ptr, Nat.zero_add, extr0, extr1, extr2, lenStr, decide_true, decide_false, bt_tt, bt_tf, bt_ft, bt_ff, bt_bne, Bool.not_true, Bool.not_false, Int.reduceBEq, Int.reduceBNe, extr30, extr31, new3z, s5, hH5]
      refine Ev.callC g1 ?_
      simp only [real_b, real_i, real_c, chk_t, bnd_some, bnd_up, iff_t, iff_f, gd_t, gd_f, wd_b, wd_u, pick_t, pick_f, b_lss, b_leq, b_gtr, b_geq, b_eql, b_neq, b_seql, b_sneq, b_add, b_sub, u_not, nilC_ptr, fAddr_ptr, Nat.zero_add, extr0, extr1, extr2, lenStr, decide_true, decide_false, bt_tt, bt_tf, bt_ft, bt_ff, bt_bne, Bool.not_true, Bool.not_false, Int.reduceBEq, Int.reduceBNe, extr30, extr31, new5z, s8, hH8, eq0 h0, f7_J2, f7_J1, eq0 h1]
      refine Ev.callC (awake_ok _) ?_
      exact Ev.pure _
end Go.Eng
