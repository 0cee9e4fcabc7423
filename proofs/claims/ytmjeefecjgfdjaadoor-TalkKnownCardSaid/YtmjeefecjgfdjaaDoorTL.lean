/- Two requests, two replies. -/
import Derived.Test.YtmjeefecjgfdjaaDoorTK
set_option linter.unusedVariables false
set_option linter.unusedSimpArgs false
namespace Go.Eng
open Go Go.Proofs

theorem seq_eq {a b : List UInt8} : ((bs a).toList == (bs b).toList) = decide (a = b) := by
  rw [bs_seq, bs_seq]
  by_cases h : a = b
  · subst h; simp
  · rw [decide_eq_false h]; simpa using h
theorem L_inj {x y : List Nat} (hx : ∀ c ∈ x, c < 256) (hy : ∀ c ∈ y, c < 256) : decide (L x = L y) = decide (x = y) := by
  by_cases h : x = y
  · subst h; simp
  · rw [decide_eq_false h, decide_eq_false]
    intro h'
    exact h (by rw [← U_L hx, ← U_L hy, h'])
theorem toStr_L {R : Nat → Prop} {H : Heap} {v : Value} {n : Nat} {d : List Nat} (h : Sl R H 1 v n (B d)) : toStr v H = some (.string (bs (L d)), H) := toStr_sl h
theorem int_eq {a b : Int} : (a == b) = decide (a = b) := by
  by_cases h : a = b
  · subst h; simp
  · rw [decide_eq_false h]; simpa using h
theorem sameask_ok {H : Heap} {k k' : Int} {l l' : List UInt8} {x x' : List Nat} {w w' : Value} (hw : By H x w) (hw' : By H x' w') (hx : ∀ c ∈ x, c < 256) (hx' : ∀ c ∈ x', c < 256) :
    ∃ H', Cl 16 [rqV k l w, rqV k' l' w'] H (.bool (decide (k = k') && (decide (l = l') && decide (x = x')))) H' ∧ Keep (all H) H H' := by
  have k1 : Keep (all H) H (H.push ⟨[.int .i64 k, .string (bs l), w], 1, true⟩) := push_keep
  have b1 : Box (all (H.push ⟨[.int .i64 k, .string (bs l), w], 1, true⟩)) (H.push ⟨[.int .i64 k, .string (bs l), w], 1, true⟩) H.n [.int .i64 k, .string (bs l), w] := push_boxA
  generalize hH1 : H.push ⟨[.int .i64 k, .string (bs l), w], 1, true⟩ = H1 at *
  have k2 : Keep (all H1) H1 (H1.push ⟨[.int .i64 k', .string (bs l'), w'], 1, true⟩) := push_keep
  have b2 : Box (all (H1.push ⟨[.int .i64 k', .string (bs l'), w'], 1, true⟩)) (H1.push ⟨[.int .i64 k', .string (bs l'), w'], 1, true⟩) H1.n [.int .i64 k', .string (bs l'), w'] := push_boxA
  generalize hH2 : H1.push ⟨[.int .i64 k', .string (bs l'), w'], 1, true⟩ = H2 at *
  have b1' := b1.keep k2
  have t1 := toStr_L ((hw.up k1).up k2)
  have t2 := toStr_L ((hw'.up k1).up k2)
  refine ⟨H2, ?_, k1.tr k2⟩
  have a0 := b1'.ld (k := 0) (v := .int .i64 k) rfl
  have a1 := b1'.ld (k := 1) (v := .string (bs l)) rfl
  have a2 := b1'.ld (k := 2) (v := w) rfl
  have c0 := b2.ld (k := 0) (v := .int .i64 k') rfl
  have c1 := b2.ld (k := 1) (v := .string (bs l')) rfl
  have c2 := b2.ld (k := 2) (v := w') rfl
  refine Ev.enter (fun n => f16_eq rfl n _ _ _) ?_
  by_cases h0 : k = k'
  · by_cases h1 : l = l'
    · simp only [f16, real_b, real_i, real_c, chk_t, bnd_some, bnd_up, iff_t, iff_f, gd_t, gd_f, wd_b, wd_u, pick_t, pick_f, b_lss, b_leq, b_gtr, b_geq, b_eql, b_neq, b_seql, b_sneq, b_add, b_sub, u_not, nilC_ptr, fAddr_ptr, Nat.zero_add, extr0, extr1, extr2, lenStr, decide_true, decide_false, bt_tt, bt_tf, bt_ft, bt_ff, bt_bne, Bool.not_true, Bool.not_false, Int.reduceBEq, Int.reduceBNe, extr30, extr31, rq_new hw.oneC, hH1, rq_new hw'.oneC, hH2, a0, a1, a2, c0, c1, c2, t1, t2, int_eq, decide_eq_true h0, seq_eq, decide_eq_true h1, L_inj hx hx', Bool.true_and]
      exact Ev.pure _
    · simp only [f16, real_b, real_i, real_c, chk_t, bnd_some, bnd_up, iff_t, iff_f, gd_t, gd_f, wd_b, wd_u, pick_t, pick_f, b_lss, b_leq, b_gtr, b_geq, b_eql, b_neq, b_seql, b_sneq, b_add, b_sub, u_not, nilC_ptr, fAddr_ptr, Nat.zero_add, extr0, extr1, extr2, lenStr, decide_true, decide_false, bt_tt, bt_tf, bt_ft, bt_ff, bt_bne, Bool.not_true, Bool.not_false, Int.reduceBEq, Int.reduceBNe, extr30, extr31, rq_new hw.oneC, hH1, rq_new hw'.oneC, hH2, a0, a1, a2, c0, c1, c2, t1, t2, int_eq, decide_eq_true h0, seq_eq, decide_eq_false h1, L_inj hx hx', Bool.true_and, Bool.false_and]
      exact Ev.pure _
  · simp only [f16, real_b, real_i, real_c, chk_t, bnd_some, bnd_up, iff_t, iff_f, gd_t, gd_f, wd_b, wd_u, pick_t, pick_f, b_lss, b_leq, b_gtr, b_geq, b_eql, b_neq, b_seql, b_sneq, b_add, b_sub, u_not, nilC_ptr, fAddr_ptr, Nat.zero_add, extr0, extr1, extr2, lenStr, decide_true, decide_false, bt_tt, bt_tf, bt_ft, bt_ff, bt_bne, Bool.not_true, Bool.not_false, Int.reduceBEq, Int.reduceBNe, extr30, extr31, rq_new hw.oneC, hH1, rq_new hw'.oneC, hH2, a0, a1, a2, c0, c1, c2, t1, t2, int_eq, decide_eq_false h0, seq_eq, L_inj hx hx', Bool.true_and, Bool.false_and]
    exact Ev.pure _
theorem sameans_ok {H : Heap} {k k' e e' a a' : Int} {l l' : List UInt8} {x x' : List Nat} {w w' : Value} (hw : By H x w) (hw' : By H x' w') (hx : ∀ c ∈ x, c < 256) (hx' : ∀ c ∈ x', c < 256) :
    ∃ H', Cl 22 [rpV k e a l w, rpV k' e' a' l' w'] H (.bool (decide (k = k') && (decide (e = e') && (decide (a = a') && (decide (l = l') && decide (x = x')))))) H' ∧ Keep (all H) H H' := by
  have k1 : Keep (all H) H (H.push ⟨[.int .i64 k, .int .i64 e, .int .i64 a, .string (bs l), w], 1, true⟩) := push_keep
  have b1 : Box (all (H.push ⟨[.int .i64 k, .int .i64 e, .int .i64 a, .string (bs l), w], 1, true⟩)) (H.push ⟨[.int .i64 k, .int .i64 e, .int .i64 a, .string (bs l), w], 1, true⟩) H.n [.int .i64 k, .int .i64 e, .int .i64 a, .string (bs l), w] := push_boxA
  generalize hH1 : H.push ⟨[.int .i64 k, .int .i64 e, .int .i64 a, .string (bs l), w], 1, true⟩ = H1 at *
  have k2 : Keep (all H1) H1 (H1.push ⟨[.int .i64 k', .int .i64 e', .int .i64 a', .string (bs l'), w'], 1, true⟩) := push_keep
  have b2 : Box (all (H1.push ⟨[.int .i64 k', .int .i64 e', .int .i64 a', .string (bs l'), w'], 1, true⟩)) (H1.push ⟨[.int .i64 k', .int .i64 e', .int .i64 a', .string (bs l'), w'], 1, true⟩) H1.n [.int .i64 k', .int .i64 e', .int .i64 a', .string (bs l'), w'] := push_boxA
  generalize hH2 : H1.push ⟨[.int .i64 k', .int .i64 e', .int .i64 a', .string (bs l'), w'], 1, true⟩ = H2 at *
  have b1' := b1.keep k2
  have t1 := toStr_L ((hw.up k1).up k2)
  have t2 := toStr_L ((hw'.up k1).up k2)
  refine ⟨H2, ?_, k1.tr k2⟩
  have a0 := b1'.ld (k := 0) (v := .int .i64 k) rfl
  have a1 := b1'.ld (k := 1) (v := .int .i64 e) rfl
  have a2 := b1'.ld (k := 2) (v := .int .i64 a) rfl
  have a3 := b1'.ld (k := 3) (v := .string (bs l)) rfl
  have a4 := b1'.ld (k := 4) (v := w) rfl
  have c0 := b2.ld (k := 0) (v := .int .i64 k') rfl
  have c1 := b2.ld (k := 1) (v := .int .i64 e') rfl
  have c2 := b2.ld (k := 2) (v := .int .i64 a') rfl
  have c3 := b2.ld (k := 3) (v := .string (bs l')) rfl
  have c4 := b2.ld (k := 4) (v := w') rfl
  refine Ev.enter (fun n => f22_eq rfl n _ _ _) ?_
  by_cases h0 : k = k'
  · by_cases h1 : e = e'
    · by_cases h2 : a = a'
      · by_cases h3 : l = l'
        · simp only [f22, real_b, real_i, real_c, chk_t, bnd_some, bnd_up, iff_t, iff_f, gd_t, gd_f, wd_b, wd_u, pick_t, pick_f, b_lss, b_leq, b_gtr, b_geq, b_eql, b_neq, b_seql, b_sneq, b_add, b_sub, u_not, nilC_ptr, fAddr_ptr, Nat.zero_add, extr0, extr1, extr2, lenStr, decide_true, decide_false, bt_tt, bt_tf, bt_ft, bt_ff, bt_bne, Bool.not_true, Bool.not_false, Int.reduceBEq, Int.reduceBNe, extr30, extr31, rp_new hw.oneC, hH1, rp_new hw'.oneC, hH2, a0, a1, a2, a3, a4, c0, c1, c2, c3, c4, t1, t2, int_eq, decide_eq_true h0, decide_eq_true h1, decide_eq_true h2, decide_eq_true h3, seq_eq, L_inj hx hx', Bool.true_and, Bool.false_and]
          exact Ev.pure _
        · simp only [f22, real_b, real_i, real_c, chk_t, bnd_some, bnd_up, iff_t, iff_f, gd_t, gd_f, wd_b, wd_u, pick_t, pick_f, b_lss, b_leq, b_gtr, b_geq, b_eql, b_neq, b_seql, b_sneq, b_add, b_sub, u_not, nilC_ptr, fAddr_ptr, Nat.zero_add, extr0, extr1, extr2, lenStr, decide_true, decide_false, bt_tt, bt_tf, bt_ft, bt_ff, bt_bne, Bool.not_true, Bool.not_false, Int.reduceBEq, Int.reduceBNe, extr30, extr31, rp_new hw.oneC, hH1, rp_new hw'.oneC, hH2, a0, a1, a2, a3, a4, c0, c1, c2, c3, c4, t1, t2, int_eq, decide_eq_true h0, decide_eq_true h1, decide_eq_true h2, decide_eq_false h3, seq_eq, L_inj hx hx', Bool.true_and, Bool.false_and]
          exact Ev.pure _
      · simp only [f22, real_b, real_i, real_c, chk_t, bnd_some, bnd_up, iff_t, iff_f, gd_t, gd_f, wd_b, wd_u, pick_t, pick_f, b_lss, b_leq, b_gtr, b_geq, b_eql, b_neq, b_seql, b_sneq, b_add, b_sub, u_not, nilC_ptr, fAddr_ptr, Nat.zero_add, extr0, extr1, extr2, lenStr, decide_true, decide_false, bt_tt, bt_tf, bt_ft, bt_ff, bt_bne, Bool.not_true, Bool.not_false, Int.reduceBEq, Int.reduceBNe, extr30, extr31, rp_new hw.oneC, hH1, rp_new hw'.oneC, hH2, a0, a1, a2, a3, a4, c0, c1, c2, c3, c4, t1, t2, int_eq, decide_eq_true h0, decide_eq_true h1, decide_eq_false h2, seq_eq, L_inj hx hx', Bool.true_and, Bool.false_and]
        exact Ev.pure _
    · simp only [f22, real_b, real_i, real_c, chk_t, bnd_some, bnd_up, iff_t, iff_f, gd_t, gd_f, wd_b, wd_u, pick_t, pick_f, b_lss, b_leq, b_gtr, b_geq, b_eql, b_neq, b_seql, b_sneq, b_add, b_sub, u_not, nilC_ptr, fAddr_ptr, Nat.zero_add, extr0, extr1, extr2, lenStr, decide_true, decide_false, bt_tt, bt_tf, bt_ft, bt_ff, bt_bne, Bool.not_true, Bool.not_false, Int.reduceBEq, Int.reduceBNe, extr30, extr31, rp_new hw.oneC, hH1, rp_new hw'.oneC, hH2, a0, a1, a2, a3, a4, c0, c1, c2, c3, c4, t1, t2, int_eq, decide_eq_true h0, decide_eq_false h1, seq_eq, L_inj hx hx', Bool.true_and, Bool.false_and]
      exact Ev.pure _
  · simp only [f22, real_b, real_i, real_c, chk_t, bnd_some, bnd_up, iff_t, iff_f, gd_t, gd_f, wd_b, wd_u, pick_t, pick_f, b_lss, b_leq, b_gtr, b_geq, b_eql, b_neq, b_seql, b_sneq, b_add, b_sub, u_not, nilC_ptr, fAddr_ptr, Nat.zero_add, extr0, extr1, extr2, lenStr, decide_true, decide_false, bt_tt, bt_tf, bt_ft, bt_ff, bt_bne, Bool.not_true, Bool.not_false, Int.reduceBEq, Int.reduceBNe, extr30, extr31, rp_new hw.oneC, hH1, rp_new hw'.oneC, hH2, a0, a1, a2, a3, a4, c0, c1, c2, c3, c4, t1, t2, int_eq, decide_eq_false h0, seq_eq, L_inj hx hx', Bool.true_and, Bool.false_and]
    exact Ev.pure _
end Go.Eng
