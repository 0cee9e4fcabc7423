/- Grammars held against each other. -/
import Derived.Test.YtjnpiaigiljpjaaKP
set_option linter.unusedVariables false
set_option linter.unusedSimpArgs false
namespace Go.Eng
open Go Go.Proofs

/-! ### texts (the same text as 'same') -/
theorem texts_loop {R : Nat → Prop} {H : Heap} {v1 v2 : Value} {a b : List ByteArray} (h1 : Sli R H a v1) (h2 : Sli R H b v2) (hl : a.length = b.length) (hb : a.length < 9223372036854775807) :
    ∀ (k i : Nat), i + k = a.length → Ev (fun n m => f39_L0 real (AC n) n m v1 v2 (.int .i64 (i : Int)) H) (.bool (decide (a.drop i = b.drop i)), H) := by
  intro k
  induction k with
  | zero =>
    intro i hi
    refine Ev.step (fun n m => f39_L0.eq_2 _ _ _ _ _ _ _ _) ?_
    have e : decide (a.drop i = b.drop i) = true := by
      rw [List.drop_eq_nil_of_le (by omega), List.drop_eq_nil_of_le (by omega)]; simp
    simp only [real_b, real_i, real_c, chk_t, bnd_some, bnd_up, iff_t, iff_f, gd_t, gd_f, wd_b, wd_u, pick_t, pick_f, b_lss, b_leq, b_gtr, b_geq, b_eql, b_neq, b_seql, b_sneq, b_add, b_sub, u_not, nilC_ptr, fAddr_ptr, Nat.zero_add, extr0, extr1, extr2, lenStr, decide_true, decide_false, bt_tt, bt_tf, bt_ft, bt_ff, bt_bne, Bool.not_true, Bool.not_false, Int.reduceBEq, Int.reduceBNe, h1.lenS, idx_ge (show a.length ≤ i by omega), e]
    exact Ev.pure _
  | succ k ih =>
    intro i hi
    obtain ⟨x, x1, x2⟩ := drop_at (l := a) (i := i) (by omega)
    obtain ⟨y, y1, y2⟩ := drop_at (l := b) (i := i) (by omega)
    obtain ⟨p, p1, p2⟩ := h1.str x1
    obtain ⟨q, q1, q2⟩ := h2.str y1
    refine Ev.step (fun n m => f39_L0.eq_2 _ _ _ _ _ _ _ _) ?_
    by_cases hxy : x = y
    · subst hxy
      have e : (!(x.toList == x.toList)) = false := by simp
      simp only [real_b, real_i, real_c, chk_t, bnd_some, bnd_up, iff_t, iff_f, gd_t, gd_f, wd_b, wd_u, pick_t, pick_f, b_lss, b_leq, b_gtr, b_geq, b_eql, b_neq, b_seql, b_sneq, b_add, b_sub, u_not, nilC_ptr, fAddr_ptr, Nat.zero_add, extr0, extr1, extr2, lenStr, decide_true, decide_false, bt_tt, bt_tf, bt_ft, bt_ff, bt_bne, Bool.not_true, Bool.not_false, Int.reduceBEq, Int.reduceBNe, h1.lenS, idx_lt (show i < a.length by omega), p1, p2, q1, q2, e, idx_up (show i < 9223372036854775807 by omega)]
      have := ih (i + 1) (by omega)
      rw [x2, y2]
      simpa using this
    · have hn : (x.toList == y.toList) = false := by
        simp only [beq_eq_false_iff_ne, ne_eq]
        exact fun h => hxy (seq_inj h)
      simp only [real_b, real_i, real_c, chk_t, bnd_some, bnd_up, iff_t, iff_f, gd_t, gd_f, wd_b, wd_u, pick_t, pick_f, b_lss, b_leq, b_gtr, b_geq, b_eql, b_neq, b_seql, b_sneq, b_add, b_sub, u_not, nilC_ptr, fAddr_ptr, Nat.zero_add, extr0, extr1, extr2, lenStr, decide_true, decide_false, bt_tt, bt_tf, bt_ft, bt_ff, bt_bne, Bool.not_true, Bool.not_false, Int.reduceBEq, Int.reduceBNe, h1.lenS, idx_lt (show i < a.length by omega), p1, p2, q1, q2, hn]
      rw [x2, y2]
      have : decide (x :: a.drop (i + 1) = y :: b.drop (i + 1)) = false := by simp [hxy]
      rw [this]
      exact Ev.pure _
theorem texts_ok {R : Nat → Prop} {H : Heap} {v1 v2 : Value} {a b : List ByteArray} (h1 : Sli R H a v1) (h2 : Sli R H b v2) (hb : a.length < 9223372036854775807) : Cl 39 [v1, v2] H (.bool (decide (a = b))) H := by
  refine Ev.enter (fun n => f39_eq rfl n _ _ _) ?_
  by_cases hl : a.length = b.length
  · have hn : ((a.length : Int) != (b.length : Int)) = false := by simp; omega
    simp only [f39, real_b, real_i, real_c, chk_t, bnd_some, bnd_up, iff_t, iff_f, gd_t, gd_f, wd_b, wd_u, pick_t, pick_f, b_lss, b_leq, b_gtr, b_geq, b_eql, b_neq, b_seql, b_sneq, b_add, b_sub, u_not, nilC_ptr, fAddr_ptr, Nat.zero_add, extr0, extr1, extr2, lenStr, decide_true, decide_false, bt_tt, bt_tf, bt_ft, bt_ff, bt_bne, Bool.not_true, Bool.not_false, Int.reduceBEq, Int.reduceBNe, h1.lenS, h2.lenS, hn]
    have := (texts_loop h1 h2 hl hb a.length 0 (by omega)).loop
    simpa using this
  · have hn : ((a.length : Int) != (b.length : Int)) = true := by simp; omega
    simp only [f39, real_b, real_i, real_c, chk_t, bnd_some, bnd_up, iff_t, iff_f, gd_t, gd_f, wd_b, wd_u, pick_t, pick_f, b_lss, b_leq, b_gtr, b_geq, b_eql, b_neq, b_seql, b_sneq, b_add, b_sub, u_not, nilC_ptr, fAddr_ptr, Nat.zero_add, extr0, extr1, extr2, lenStr, decide_true, decide_false, bt_tt, bt_tf, bt_ft, bt_ff, bt_bne, Bool.not_true, Bool.not_false, Int.reduceBEq, Int.reduceBNe, h1.lenS, h2.lenS, hn]
    have : decide (a = b) = false := by
      simp; intro h; exact hl (by rw [h])
    rw [this]
    exact Ev.pure _

/-! ### like -/
theorem like_loop {R : Nat → Prop} {H : Heap} {p q : Nat} {c d : List Value} {v1 v2 : Value} {a b : List Int} (hp : Box R H p c) (hq : Box R H q d) (hc : c[1]? = some v1) (hd : d[1]? = some v2) (h1 : Sli R H a v1) (h2 : Sli R H b v2) (hl : a.length = b.length) (hb : a.length < 9223372036854775807) :
    ∀ (k i : Nat), i + k = a.length → Ev (fun n m => f40_L0 real (AC n) n m (ptr p 0) (ptr q 0) (.int .i64 (i : Int)) H) (.bool (decide (a.drop i = b.drop i)), H) := by
  intro k
  induction k with
  | zero =>
    intro i hi
    refine Ev.step (fun n m => f40_L0.eq_2 _ _ _ _ _ _ _ _) ?_
    have e : decide (a.drop i = b.drop i) = true := by
      rw [List.drop_eq_nil_of_le (by omega), List.drop_eq_nil_of_le (by omega)]; simp
    simp only [real_b, real_i, real_c, chk_t, bnd_some, bnd_up, iff_t, iff_f, gd_t, gd_f, wd_b, wd_u, pick_t, pick_f, b_lss, b_leq, b_gtr, b_geq, b_eql, b_neq, b_seql, b_sneq, b_add, b_sub, u_not, nilC_ptr, fAddr_ptr, Nat.zero_add, extr0, extr1, extr2, lenStr, decide_true, decide_false, bt_tt, bt_tf, bt_ft, bt_ff, bt_bne, Bool.not_true, Bool.not_false, Int.reduceBEq, Int.reduceBNe, hp.ld hc, h1.lenS, idx_ge (show a.length ≤ i by omega), e]
    exact Ev.pure _
  | succ k ih =>
    intro i hi
    obtain ⟨x, x1, x2⟩ := drop_at (l := a) (i := i) (by omega)
    obtain ⟨y, y1, y2⟩ := drop_at (l := b) (i := i) (by omega)
    obtain ⟨p', p1, p2⟩ := h1.int x1
    obtain ⟨q', q1, q2⟩ := h2.int y1
    refine Ev.step (fun n m => f40_L0.eq_2 _ _ _ _ _ _ _ _) ?_
    by_cases hxy : x = y
    · subst hxy
      simp only [real_b, real_i, real_c, chk_t, bnd_some, bnd_up, iff_t, iff_f, gd_t, gd_f, wd_b, wd_u, pick_t, pick_f, b_lss, b_leq, b_gtr, b_geq, b_eql, b_neq, b_seql, b_sneq, b_add, b_sub, u_not, nilC_ptr, fAddr_ptr, Nat.zero_add, extr0, extr1, extr2, lenStr, decide_true, decide_false, bt_tt, bt_tf, bt_ft, bt_ff, bt_bne, Bool.not_true, Bool.not_false, Int.reduceBEq, Int.reduceBNe, hp.ld hc, hq.ld hd, h1.lenS, idx_lt (show i < a.length by omega), p1, p2, q1, q2, idx_up (show i < 9223372036854775807 by omega)]
      have := ih (i + 1) (by omega)
      rw [x2, y2]
      simpa using this
    · have hn : (x != y) = true := by simpa using hxy
      simp only [real_b, real_i, real_c, chk_t, bnd_some, bnd_up, iff_t, iff_f, gd_t, gd_f, wd_b, wd_u, pick_t, pick_f, b_lss, b_leq, b_gtr, b_geq, b_eql, b_neq, b_seql, b_sneq, b_add, b_sub, u_not, nilC_ptr, fAddr_ptr, Nat.zero_add, extr0, extr1, extr2, lenStr, decide_true, decide_false, bt_tt, bt_tf, bt_ft, bt_ff, bt_bne, Bool.not_true, Bool.not_false, Int.reduceBEq, Int.reduceBNe, hp.ld hc, hq.ld hd, h1.lenS, idx_lt (show i < a.length by omega), p1, p2, q1, q2, hn]
      rw [x2, y2]
      have : decide (x :: a.drop (i + 1) = y :: b.drop (i + 1)) = false := by simp [hxy]
      rw [this]
      exact Ev.pure _
theorem like_ok {H : Heap} {x y : Pd} {c d : List Value} (hx : Rp.rep (all H) H x c) (hy : Rp.rep (all H) H y d) (hb : x.R.length < 9223372036854775807) :
    ∃ H', Cl 40 [.agg c.toArray, .agg d.toArray] H (.bool (decide (x.L = y.L ∧ x.R = y.R))) H' ∧ Keep (all H) H H' := by
  have hc1 := Rp.one hx
  have hd1 := Rp.one hy
  obtain ⟨w, rfl, hw, hr1, hr2, hr3⟩ := rep_pd hx
  obtain ⟨u, rfl, hu, hs1, hs2, hs3⟩ := rep_pd hy
  let H1 := H.push ⟨[.int .i64 x.L, w, .int .i64 x.V.N, .int .i64 x.V.K], 1, true⟩
  let H2 := H1.push ⟨[.int .i64 y.L, u, .int .i64 y.V.N, .int .i64 y.V.K], 1, true⟩
  have k1 : Keep (all H) H H1 := push_keep
  have k2 : Keep (all H1) H1 H2 := push_keep
  have n1 : newV (Value.cells (.agg [.int .i64 x.L, w, .int .i64 x.V.N, .int .i64 x.V.K].toArray)).toList H = some (ptr H.n 0, H1) := newV_box hc1
  have n2 : newV (Value.cells (.agg [.int .i64 y.L, u, .int .i64 y.V.N, .int .i64 y.V.K].toArray)).toList H1 = some (ptr H1.n 0, H2) := newV_box hd1
  have b1 : Box (all H2) H2 H.n [.int .i64 x.L, w, .int .i64 x.V.N, .int .i64 x.V.K] := (push_boxA.keep k2).mono (upA k2)
  have b2 : Box (all H2) H2 H1.n [.int .i64 y.L, u, .int .i64 y.V.N, .int .i64 y.V.K] := push_boxA
  have k : Keep (all H) H H2 := k1.trans (k2.mono (upA k1))
  have w2 : Sli (all H2) H2 x.R w := (hw.keep k).mono (upA k)
  have u2 : Sli (all H2) H2 y.R u := (hu.keep k).mono (upA k)
  refine ⟨H2, ?_, k⟩
  refine Ev.enter (fun n => f40_eq rfl n _ _ _) ?_
  by_cases hL : x.L = y.L
  · by_cases hl : x.R.length = y.R.length
    · have hn : ((x.R.length : Int) != (y.R.length : Int)) = false := by simp; omega
      simp only [f40, real_b, real_i, real_c, chk_t, bnd_some, bnd_up, iff_t, iff_f, gd_t, gd_f, wd_b, wd_u, pick_t, pick_f, b_lss, b_leq, b_gtr, b_geq, b_eql, b_neq, b_seql, b_sneq, b_add, b_sub, u_not, nilC_ptr, fAddr_ptr, Nat.zero_add, extr0, extr1, extr2, lenStr, decide_true, decide_false, bt_tt, bt_tf, bt_ft, bt_ff, bt_bne, Bool.not_true, Bool.not_false, Int.reduceBEq, Int.reduceBNe, n1, n2, b1.ld (k := 0) rfl, b2.ld (k := 0) rfl, b1.ld (k := 1) rfl, b2.ld (k := 1) rfl, show (x.L != y.L) = false by simp [hL], w2.lenS, u2.lenS, hn]
      have := (like_loop b1 b2 rfl rfl w2 u2 hl hb x.R.length 0 (by omega)).loop
      simpa [hL] using this
    · have hn : ((x.R.length : Int) != (y.R.length : Int)) = true := by simp; omega
      simp only [f40, real_b, real_i, real_c, chk_t, bnd_some, bnd_up, iff_t, iff_f, gd_t, gd_f, wd_b, wd_u, pick_t, pick_f, b_lss, b_leq, b_gtr, b_geq, b_eql, b_neq, b_seql, b_sneq, b_add, b_sub, u_not, nilC_ptr, fAddr_ptr, Nat.zero_add, extr0, extr1, extr2, lenStr, decide_true, decide_false, bt_tt, bt_tf, bt_ft, bt_ff, bt_bne, Bool.not_true, Bool.not_false, Int.reduceBEq, Int.reduceBNe, n1, n2, b1.ld (k := 0) rfl, b2.ld (k := 0) rfl, b1.ld (k := 1) rfl, b2.ld (k := 1) rfl, show (x.L != y.L) = false by simp [hL], w2.lenS, u2.lenS, hn]
      have : decide (x.L = y.L ∧ x.R = y.R) = false := by
        simp; intro _ h; exact hl (by rw [h])
      rw [this]
      exact Ev.pure _
  · have hn : (x.L != y.L) = true := by simpa using hL
    simp only [f40, real_b, real_i, real_c, chk_t, bnd_some, bnd_up, iff_t, iff_f, gd_t, gd_f, wd_b, wd_u, pick_t, pick_f, b_lss, b_leq, b_gtr, b_geq, b_eql, b_neq, b_seql, b_sneq, b_add, b_sub, u_not, nilC_ptr, fAddr_ptr, Nat.zero_add, extr0, extr1, extr2, lenStr, decide_true, decide_false, bt_tt, bt_tf, bt_ft, bt_ff, bt_bne, Bool.not_true, Bool.not_false, Int.reduceBEq, Int.reduceBNe, n1, n2, b1.ld (k := 0) rfl, b2.ld (k := 0) rfl, b1.ld (k := 1) rfl, b2.ld (k := 1) rfl, hn]
    have : decide (x.L = y.L ∧ x.R = y.R) = false := by simp [hL]
    rw [this]
    exact Ev.pure _
end Go.Eng
