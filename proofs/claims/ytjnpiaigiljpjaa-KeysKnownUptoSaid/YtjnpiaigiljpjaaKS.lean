/- Are two grammars the same? -/
import Derived.Test.YtjnpiaigiljpjaaKR
set_option linter.unusedVariables false
set_option linter.unusedSimpArgs false
namespace Go.Eng
open Go Go.Proofs

theorem drop_eq_cons {α : Type} {a b : List α} {i : Nat} {x y : α} (ha : a.drop i = x :: a.drop (i + 1)) (hb : b.drop i = y :: b.drop (i + 1)) : (a.drop i = b.drop i) ↔ (x = y ∧ a.drop (i + 1) = b.drop (i + 1)) := by
  rw [ha, hb, List.cons.injEq]
theorem drop_nil {α : Type} {a b : List α} {i : Nat} (ha : a.length ≤ i) (hb : b.length ≤ i) : (a.drop i = b.drop i) ↔ True := by
  rw [List.drop_eq_nil_of_le ha, List.drop_eq_nil_of_le hb]; simp
theorem pd_eq (x y : Pd) : x = y ↔ ((x.L = y.L ∧ x.R = y.R) ∧ x.V = y.V) := by
  cases x; cases y; simp [and_assoc]
def ptsOk (l : List Pt) : Prop := ∀ x ∈ l, x.P.size ≤ maxLen
theorem mem_at {α : Type} {l : List α} {i : Nat} {x : α} (h : l[i]? = some x) : x ∈ l := List.mem_of_getElem? h

section
variable {p q : Nat} {a b : Gr} {v0 v1 v2 v3 v4 u0 u1 u2 u3 u4 : Value}
theorem samep_loop (hl : a.prods.length = b.prods.length) (hn : a.prods.length < 9223372036854775807) (hr : ∀ x ∈ a.prods, x.R.length < 9223372036854775807) : ∀ (k i : Nat), i + k = a.prods.length → ∀ (H : Heap), GB (all H) H a p v0 v1 v2 v3 v4 → GB (all H) H b q u0 u1 u2 u3 u4 →
    ∃ H', Ev (fun n m => f25_L2 real (AC n) n m (ptr p 0) (ptr q 0) (.int .i64 (i : Int)) H) (.bool (decide (a.prods.drop i = b.prods.drop i)), H') ∧ Keep (all H) H H' := by
  intro k
  induction k with
  | zero =>
    intro i hi H ga gb
    refine ⟨H, ?_, Keep.refl _ _⟩
    refine Ev.step (fun n m => f25_L2.eq_2 _ _ _ _ _ _ _ _) ?_
    simp only [real_b, real_i, real_c, chk_t, bnd_some, bnd_up, iff_t, iff_f, gd_t, gd_f, wd_b, wd_u, pick_t, pick_f, b_lss, b_leq, b_gtr, b_geq, b_eql, b_neq, b_seql, b_sneq, b_add, b_sub, u_not, nilC_ptr, fAddr_ptr, Nat.zero_add, extr0, extr1, extr2, lenStr, decide_true, decide_false, bt_tt, bt_tf, bt_ft, bt_ff, bt_bne, Bool.not_true, Bool.not_false, Int.reduceBEq, Int.reduceBNe, ga.d4, ga.s4.lenS, idx_ge (show a.prods.length ≤ i by omega), drop_nil (show a.prods.length ≤ i by omega) (show b.prods.length ≤ i by omega)]
    exact Ev.pure _
  | succ k ih =>
    intro i hi H ga gb
    have hlt : i < a.prods.length := by omega
    obtain ⟨x, hx, hdx⟩ := drop_at hlt
    obtain ⟨y, hy, hdy⟩ := drop_at (l := b.prods) (i := i) (by omega)
    obtain ⟨b1, o1, c1, e1, e2, e3, e4, e5⟩ := ga.s4.rec hx
    obtain ⟨b2, o2, c2, f1, f2, f3, f4, f5⟩ := gb.s4.rec hy
    obtain ⟨H1, l1, l2⟩ := like_ok e3 f3 (hr x (mem_at hx))
    have ga1 := (ga.keep l2).mono (upA l2)
    have gb1 := (gb.keep l2).mono (upA l2)
    obtain ⟨b1', o1', c1', e1', e2', e3', e4', e5'⟩ := ga1.s4.rec hx
    obtain ⟨b2', o2', c2', f1', f2', f3', f4', f5'⟩ := gb1.s4.rec hy
    have hc := rep_pd e3'
    have hd := rep_pd f3'
    obtain ⟨w, rfl, hw, hr1, hr2, hr3⟩ := hc
    obtain ⟨u, rfl, hu, hs1, hs2, hs3⟩ := hd
    have hh1 : iAddrS 4 v4 (.int .i64 i) = some (ptr b1 o1) := e1
    have hh2 : iAddrS 4 u4 (.int .i64 i) = some (ptr b2 o2) := f1
    have hbo : ptr b1' o1' = ptr b1 o1 := Option.some.inj (e1'.symm.trans e1)
    have hbo2 : ptr b2' o2' = ptr b2 o2 := Option.some.inj (f1'.symm.trans f1)
    have ld1 : ldA 2 (ptr b1 (o1 + 2)) H1 = some (.agg [.int .i64 x.V.N, .int .i64 x.V.K].toArray, H1) := by
      have hp : ldC (ptr b1' (o1' + 2)) H1 = some (.int .i64 x.V.N, H1) := e4' 2 _ rfl
      have hq : ldC (ptr b1' (o1' + 3)) H1 = some (.int .i64 x.V.K, H1) := e4' 3 _ rfl
      injection hbo with h0; injection h0 with h0; injection h0 with h0 h00
      subst h0; subst h00
      exact ldA_two hp hq
    have ld2 : ldA 2 (ptr b2 (o2 + 2)) H1 = some (.agg [.int .i64 y.V.N, .int .i64 y.V.K].toArray, H1) := by
      have hp : ldC (ptr b2' (o2' + 2)) H1 = some (.int .i64 y.V.N, H1) := f4' 2 _ rfl
      have hq : ldC (ptr b2' (o2' + 3)) H1 = some (.int .i64 y.V.K, H1) := f4' 3 _ rfl
      injection hbo2 with h0; injection h0 with h0; injection h0 with h0 h00
      subst h0; subst h00
      exact ldA_two hp hq
    have ld0 : ldA 4 (ptr b1 o1) H = some (.agg c1.toArray, H) := e5
    have ld0' : ldA 4 (ptr b2 o2) H = some (.agg c2.toArray, H) := f5
    by_cases hlk : x.L = y.L ∧ x.R = y.R
    · by_cases hv : x.V = y.V
      · obtain ⟨H', q1, q2⟩ := ih (i + 1) (by omega) H1 ga1 gb1
        refine ⟨H', ?_, l2.trans (q2.mono (upA l2))⟩
        refine Ev.step (fun n m => f25_L2.eq_2 _ _ _ _ _ _ _ _) ?_
        simp only [real_b, real_i, real_c, chk_t, bnd_some, bnd_up, iff_t, iff_f, gd_t, gd_f, wd_b, wd_u, pick_t, pick_f, b_lss, b_leq, b_gtr, b_geq, b_eql, b_neq, b_seql, b_sneq, b_add, b_sub, u_not, nilC_ptr, fAddr_ptr, Nat.zero_add, extr0, extr1, extr2, lenStr, decide_true, decide_false, bt_tt, bt_tf, bt_ft, bt_ff, bt_bne, Bool.not_true, Bool.not_false, Int.reduceBEq, Int.reduceBNe, ga.d4, gb.d4, ga.s4.lenS, idx_lt hlt, hh1, hh2, ld0, ld0']
        refine Ev.callC l1 ?_
        have hne : (!decide (x.V = y.V)) = false := by simp [hv]
        have hkk : decide (x.L = y.L ∧ x.R = y.R) = true := by simpa using hlk
        simp only [real_b, real_i, real_c, chk_t, bnd_some, bnd_up, iff_t, iff_f, gd_t, gd_f, wd_b, wd_u, pick_t, pick_f, b_lss, b_leq, b_gtr, b_geq, b_eql, b_neq, b_seql, b_sneq, b_add, b_sub, u_not, nilC_ptr, fAddr_ptr, Nat.zero_add, extr0, extr1, extr2, lenStr, decide_true, decide_false, bt_tt, bt_tf, bt_ft, bt_ff, bt_bne, Bool.not_true, Bool.not_false, Int.reduceBEq, Int.reduceBNe, hkk, Bool.or_true, Bool.true_or, ga1.d4, gb1.d4, hh1, hh2, ld1, ld2, b_lvneq ⟨hr2, hr3⟩ ⟨hs2, hs3⟩, hne, idx_up (show i < 9223372036854775807 by omega)]
        have e : (decide (a.prods.drop i = b.prods.drop i)) = decide (a.prods.drop (i + 1) = b.prods.drop (i + 1)) := by
          have : (a.prods.drop i = b.prods.drop i) ↔ (a.prods.drop (i + 1) = b.prods.drop (i + 1)) := by
            rw [drop_eq_cons hdx hdy, pd_eq]
            simp [hlk, hv]
          simp [this]
        rw [e]
        exact q1
      · refine ⟨H1, ?_, l2⟩
        refine Ev.step (fun n m => f25_L2.eq_2 _ _ _ _ _ _ _ _) ?_
        simp only [real_b, real_i, real_c, chk_t, bnd_some, bnd_up, iff_t, iff_f, gd_t, gd_f, wd_b, wd_u, pick_t, pick_f, b_lss, b_leq, b_gtr, b_geq, b_eql, b_neq, b_seql, b_sneq, b_add, b_sub, u_not, nilC_ptr, fAddr_ptr, Nat.zero_add, extr0, extr1, extr2, lenStr, decide_true, decide_false, bt_tt, bt_tf, bt_ft, bt_ff, bt_bne, Bool.not_true, Bool.not_false, Int.reduceBEq, Int.reduceBNe, ga.d4, gb.d4, ga.s4.lenS, idx_lt hlt, hh1, hh2, ld0, ld0']
        refine Ev.callC l1 ?_
        have hne : (!decide (x.V = y.V)) = true := by simp [hv]
        have hkk : decide (x.L = y.L ∧ x.R = y.R) = true := by simpa using hlk
        simp only [real_b, real_i, real_c, chk_t, bnd_some, bnd_up, iff_t, iff_f, gd_t, gd_f, wd_b, wd_u, pick_t, pick_f, b_lss, b_leq, b_gtr, b_geq, b_eql, b_neq, b_seql, b_sneq, b_add, b_sub, u_not, nilC_ptr, fAddr_ptr, Nat.zero_add, extr0, extr1, extr2, lenStr, decide_true, decide_false, bt_tt, bt_tf, bt_ft, bt_ff, bt_bne, Bool.not_true, Bool.not_false, Int.reduceBEq, Int.reduceBNe, hkk, Bool.or_true, Bool.true_or, ga1.d4, gb1.d4, hh1, hh2, ld1, ld2, b_lvneq ⟨hr2, hr3⟩ ⟨hs2, hs3⟩, hne]
        have e : (decide (a.prods.drop i = b.prods.drop i)) = false := by
          have : ¬ (a.prods.drop i = b.prods.drop i) := by
            rw [drop_eq_cons hdx hdy, pd_eq]
            simp [hv]
          simp [this]
        rw [e]
        exact Ev.pure _
    · refine ⟨H1, ?_, l2⟩
      refine Ev.step (fun n m => f25_L2.eq_2 _ _ _ _ _ _ _ _) ?_
      simp only [real_b, real_i, real_c, chk_t, bnd_some, bnd_up, iff_t, iff_f, gd_t, gd_f, wd_b, wd_u, pick_t, pick_f, b_lss, b_leq, b_gtr, b_geq, b_eql, b_neq, b_seql, b_sneq, b_add, b_sub, u_not, nilC_ptr, fAddr_ptr, Nat.zero_add, extr0, extr1, extr2, lenStr, decide_true, decide_false, bt_tt, bt_tf, bt_ft, bt_ff, bt_bne, Bool.not_true, Bool.not_false, Int.reduceBEq, Int.reduceBNe, ga.d4, gb.d4, ga.s4.lenS, idx_lt hlt, hh1, hh2, ld0, ld0']
      refine Ev.callC l1 ?_
      have hkk : decide (x.L = y.L ∧ x.R = y.R) = false := by simpa using hlk
      simp only [real_b, real_i, real_c, chk_t, bnd_some, bnd_up, iff_t, iff_f, gd_t, gd_f, wd_b, wd_u, pick_t, pick_f, b_lss, b_leq, b_gtr, b_geq, b_eql, b_neq, b_seql, b_sneq, b_add, b_sub, u_not, nilC_ptr, fAddr_ptr, Nat.zero_add, extr0, extr1, extr2, lenStr, decide_true, decide_false, bt_tt, bt_tf, bt_ft, bt_ff, bt_bne, Bool.not_true, Bool.not_false, Int.reduceBEq, Int.reduceBNe, hkk, Bool.or_true, Bool.true_or]
      have e : (decide (a.prods.drop i = b.prods.drop i)) = false := by
        have : ¬ (a.prods.drop i = b.prods.drop i) := by
          rw [drop_eq_cons hdx hdy, pd_eq]
          simp [hlk]
        simp [this]
      rw [e]
      exact Ev.pure _

theorem samet_loop (hl : a.pats.length = b.pats.length) (hn : a.pats.length < 9223372036854775807) (hp1 : ptsOk a.pats) (hp2 : ptsOk b.pats) (hlp : a.prods.length = b.prods.length) (hnp : a.prods.length < 9223372036854775807) (hr : ∀ x ∈ a.prods, x.R.length < 9223372036854775807) : ∀ (k i : Nat), i + k = a.pats.length → ∀ (H : Heap), GB (all H) H a p v0 v1 v2 v3 v4 → GB (all H) H b q u0 u1 u2 u3 u4 →
    ∃ H', Ev (fun n m => f25_L1 real (AC n) n m (ptr p 0) (ptr q 0) (.int .i64 (i : Int)) H) (.bool (decide (a.pats.drop i = b.pats.drop i ∧ a.prods = b.prods)), H') ∧ Keep (all H) H H' := by
  intro k
  induction k with
  | zero =>
    intro i hi H ga gb
    obtain ⟨H', q1, q2⟩ := samep_loop hlp hnp hr a.prods.length 0 (by omega) H ga gb
    refine ⟨H', ?_, q2⟩
    refine Ev.step (fun n m => f25_L1.eq_2 _ _ _ _ _ _ _ _) ?_
    simp only [real_b, real_i, real_c, chk_t, bnd_some, bnd_up, iff_t, iff_f, gd_t, gd_f, wd_b, wd_u, pick_t, pick_f, b_lss, b_leq, b_gtr, b_geq, b_eql, b_neq, b_seql, b_sneq, b_add, b_sub, u_not, nilC_ptr, fAddr_ptr, Nat.zero_add, extr0, extr1, extr2, lenStr, decide_true, decide_false, bt_tt, bt_tf, bt_ft, bt_ff, bt_bne, Bool.not_true, Bool.not_false, Int.reduceBEq, Int.reduceBNe, ga.d2, ga.s2.lenS, idx_ge (show a.pats.length ≤ i by omega), drop_nil (show a.pats.length ≤ i by omega) (show b.pats.length ≤ i by omega), true_and]
    have := q1.loop
    simpa using this
  | succ k ih =>
    intro i hi H ga gb
    have hlt : i < a.pats.length := by omega
    obtain ⟨x, hx, hdx⟩ := drop_at hlt
    obtain ⟨y, hy, hdy⟩ := drop_at (l := b.pats) (i := i) (by omega)
    obtain ⟨b1, o1, c1, e1, e2, e3, e4, e5⟩ := ga.s2.rec hx
    obtain ⟨b2, o2, c2, f1, f2, f3, f4, f5⟩ := gb.s2.rec hy
    obtain ⟨rfl, hr1⟩ := rep_pt e3
    obtain ⟨rfl, hs1⟩ := rep_pt f3
    have hh1 : iAddrS 2 v2 (.int .i64 i) = some (ptr b1 o1) := e1
    have hh2 : iAddrS 2 u2 (.int .i64 i) = some (ptr b2 o2) := f1
    have ld0 : ldA 2 (ptr b1 o1) H = some (.agg [.int .i64 x.T, .string x.P].toArray, H) := e5
    have ld0' : ldA 2 (ptr b2 o2) H = some (.agg [.int .i64 y.T, .string y.P].toArray, H) := f5
    by_cases hxy : x = y
    · obtain ⟨H', q1, q2⟩ := ih (i + 1) (by omega) H ga gb
      refine ⟨H', ?_, q2⟩
      refine Ev.step (fun n m => f25_L1.eq_2 _ _ _ _ _ _ _ _) ?_
      have hne : (!decide (x = y)) = false := by simp [hxy]
      simp only [real_b, real_i, real_c, chk_t, bnd_some, bnd_up, iff_t, iff_f, gd_t, gd_f, wd_b, wd_u, pick_t, pick_f, b_lss, b_leq, b_gtr, b_geq, b_eql, b_neq, b_seql, b_sneq, b_add, b_sub, u_not, nilC_ptr, fAddr_ptr, Nat.zero_add, extr0, extr1, extr2, lenStr, decide_true, decide_false, bt_tt, bt_tf, bt_ft, bt_ff, bt_bne, Bool.not_true, Bool.not_false, Int.reduceBEq, Int.reduceBNe, ga.d2, gb.d2, ga.s2.lenS, idx_lt hlt, hh1, hh2, ld0, ld0', b_pteq ⟨hr1, hp1 x (mem_at hx)⟩ ⟨hs1, hp2 y (mem_at hy)⟩, hne, idx_up (show i < 9223372036854775807 by omega)]
      have e : (decide (a.pats.drop i = b.pats.drop i ∧ a.prods = b.prods)) = decide (a.pats.drop (i + 1) = b.pats.drop (i + 1) ∧ a.prods = b.prods) := by
        have : (a.pats.drop i = b.pats.drop i) ↔ (a.pats.drop (i + 1) = b.pats.drop (i + 1)) := by
          rw [drop_eq_cons hdx hdy]
          simp [hxy]
        simp [this]
      rw [e]
      exact q1
    · refine ⟨H, ?_, Keep.refl _ _⟩
      refine Ev.step (fun n m => f25_L1.eq_2 _ _ _ _ _ _ _ _) ?_
      have hne : (!decide (x = y)) = true := by simp [hxy]
      simp only [real_b, real_i, real_c, chk_t, bnd_some, bnd_up, iff_t, iff_f, gd_t, gd_f, wd_b, wd_u, pick_t, pick_f, b_lss, b_leq, b_gtr, b_geq, b_eql, b_neq, b_seql, b_sneq, b_add, b_sub, u_not, nilC_ptr, fAddr_ptr, Nat.zero_add, extr0, extr1, extr2, lenStr, decide_true, decide_false, bt_tt, bt_tf, bt_ft, bt_ff, bt_bne, Bool.not_true, Bool.not_false, Int.reduceBEq, Int.reduceBNe, ga.d2, gb.d2, ga.s2.lenS, idx_lt hlt, hh1, hh2, ld0, ld0', b_pteq ⟨hr1, hp1 x (mem_at hx)⟩ ⟨hs1, hp2 y (mem_at hy)⟩, hne]
      have e : (decide (a.pats.drop i = b.pats.drop i ∧ a.prods = b.prods)) = false := by
        have : ¬ (a.pats.drop i = b.pats.drop i) := by
          rw [drop_eq_cons hdx hdy]
          simp [hxy]
        simp [this]
      rw [e]
      exact Ev.pure _

theorem samel_loop (hll : a.levels.length = b.levels.length) (hnl : a.levels.length < 9223372036854775807) (hl : a.pats.length = b.pats.length) (hn : a.pats.length < 9223372036854775807) (hp1 : ptsOk a.pats) (hp2 : ptsOk b.pats) (hlp : a.prods.length = b.prods.length) (hnp : a.prods.length < 9223372036854775807) (hr : ∀ x ∈ a.prods, x.R.length < 9223372036854775807) : ∀ (k i : Nat), i + k = a.levels.length → ∀ (H : Heap), GB (all H) H a p v0 v1 v2 v3 v4 → GB (all H) H b q u0 u1 u2 u3 u4 →
    ∃ H', Ev (fun n m => f25_L0 real (AC n) n m (ptr p 0) (ptr q 0) (.int .i64 (i : Int)) H) (.bool (decide (a.levels.drop i = b.levels.drop i ∧ a.pats = b.pats ∧ a.prods = b.prods)), H') ∧ Keep (all H) H H' := by
  intro k
  induction k with
  | zero =>
    intro i hi H ga gb
    obtain ⟨H', q1, q2⟩ := samet_loop hl hn hp1 hp2 hlp hnp hr a.pats.length 0 (by omega) H ga gb
    refine ⟨H', ?_, q2⟩
    refine Ev.step (fun n m => f25_L0.eq_2 _ _ _ _ _ _ _ _) ?_
    simp only [real_b, real_i, real_c, chk_t, bnd_some, bnd_up, iff_t, iff_f, gd_t, gd_f, wd_b, wd_u, pick_t, pick_f, b_lss, b_leq, b_gtr, b_geq, b_eql, b_neq, b_seql, b_sneq, b_add, b_sub, u_not, nilC_ptr, fAddr_ptr, Nat.zero_add, extr0, extr1, extr2, lenStr, decide_true, decide_false, bt_tt, bt_tf, bt_ft, bt_ff, bt_bne, Bool.not_true, Bool.not_false, Int.reduceBEq, Int.reduceBNe, ga.d1, ga.s1.lenS, idx_ge (show a.levels.length ≤ i by omega), drop_nil (show a.levels.length ≤ i by omega) (show b.levels.length ≤ i by omega), true_and]
    have := q1.loop
    simpa using this
  | succ k ih =>
    intro i hi H ga gb
    have hlt : i < a.levels.length := by omega
    obtain ⟨x, hx, hdx⟩ := drop_at hlt
    obtain ⟨y, hy, hdy⟩ := drop_at (l := b.levels) (i := i) (by omega)
    obtain ⟨b1, o1, c1, e1, e2, e3, e4, e5⟩ := ga.s1.rec hx
    obtain ⟨b2, o2, c2, f1, f2, f3, f4, f5⟩ := gb.s1.rec hy
    obtain ⟨rfl, hr1⟩ := rep_lv e3
    obtain ⟨rfl, hs1⟩ := rep_lv f3
    have hh1 : iAddrS 2 v1 (.int .i64 i) = some (ptr b1 o1) := e1
    have hh2 : iAddrS 2 u1 (.int .i64 i) = some (ptr b2 o2) := f1
    have ld0 : ldA 2 (ptr b1 o1) H = some (.agg [.int .i64 x.N, .int .i64 x.K].toArray, H) := e5
    have ld0' : ldA 2 (ptr b2 o2) H = some (.agg [.int .i64 y.N, .int .i64 y.K].toArray, H) := f5
    by_cases hxy : x = y
    · obtain ⟨H', q1, q2⟩ := ih (i + 1) (by omega) H ga gb
      refine ⟨H', ?_, q2⟩
      refine Ev.step (fun n m => f25_L0.eq_2 _ _ _ _ _ _ _ _) ?_
      have hne : (!decide (x = y)) = false := by simp [hxy]
      simp only [real_b, real_i, real_c, chk_t, bnd_some, bnd_up, iff_t, iff_f, gd_t, gd_f, wd_b, wd_u, pick_t, pick_f, b_lss, b_leq, b_gtr, b_geq, b_eql, b_neq, b_seql, b_sneq, b_add, b_sub, u_not, nilC_ptr, fAddr_ptr, Nat.zero_add, extr0, extr1, extr2, lenStr, decide_true, decide_false, bt_tt, bt_tf, bt_ft, bt_ff, bt_bne, Bool.not_true, Bool.not_false, Int.reduceBEq, Int.reduceBNe, ga.d1, gb.d1, ga.s1.lenS, idx_lt hlt, hh1, hh2, ld0, ld0', b_lvneq hr1 hs1, hne, idx_up (show i < 9223372036854775807 by omega)]
      have e : (decide (a.levels.drop i = b.levels.drop i ∧ a.pats = b.pats ∧ a.prods = b.prods)) = decide (a.levels.drop (i + 1) = b.levels.drop (i + 1) ∧ a.pats = b.pats ∧ a.prods = b.prods) := by
        have : (a.levels.drop i = b.levels.drop i) ↔ (a.levels.drop (i + 1) = b.levels.drop (i + 1)) := by
          rw [drop_eq_cons hdx hdy]
          simp [hxy]
        simp [this]
      rw [e]
      exact q1
    · refine ⟨H, ?_, Keep.refl _ _⟩
      refine Ev.step (fun n m => f25_L0.eq_2 _ _ _ _ _ _ _ _) ?_
      have hne : (!decide (x = y)) = true := by simp [hxy]
      simp only [real_b, real_i, real_c, chk_t, bnd_some, bnd_up, iff_t, iff_f, gd_t, gd_f, wd_b, wd_u, pick_t, pick_f, b_lss, b_leq, b_gtr, b_geq, b_eql, b_neq, b_seql, b_sneq, b_add, b_sub, u_not, nilC_ptr, fAddr_ptr, Nat.zero_add, extr0, extr1, extr2, lenStr, decide_true, decide_false, bt_tt, bt_tf, bt_ft, bt_ff, bt_bne, Bool.not_true, Bool.not_false, Int.reduceBEq, Int.reduceBNe, ga.d1, gb.d1, ga.s1.lenS, idx_lt hlt, hh1, hh2, ld0, ld0', b_lvneq hr1 hs1, hne]
      have e : (decide (a.levels.drop i = b.levels.drop i ∧ a.pats = b.pats ∧ a.prods = b.prods)) = false := by
        have : ¬ (a.levels.drop i = b.levels.drop i) := by
          rw [drop_eq_cons hdx hdy]
          simp [hxy]
        simp [this]
      rw [e]
      exact Ev.pure _
end
/-- What a grammar is to be so that it is held against others here. -/
structure Small (g : Gr) : Prop where
  t : g.terms.length < 1000000000000
  l : g.levels.length < 1000000000000
  n : g.nons.length < 1000000000000
  p : g.pats.length < 1000000000000
  d : g.prods.length < 1000000000000
  s : ptsOk g.pats
  r : ∀ x ∈ g.prods, x.R.length < 1000000000000
theorem gr_eq (a b : Gr) : a = b ↔ (a.terms = b.terms ∧ a.nons = b.nons ∧ a.levels = b.levels ∧ a.pats = b.pats ∧ a.prods = b.prods) := by
  cases a; cases b
  simp only [Gr.mk.injEq]
  constructor
  · rintro ⟨a, b, c, d, e⟩; exact ⟨a, d, b, c, e⟩
  · rintro ⟨a, b, c, d, e⟩; exact ⟨a, c, d, b, e⟩
theorem GB.allOf {H H1 : Heap} {g : Gr} {v0 v1 v2 v3 v4 : Value} (h : GB (plus (all H) H H1) H1 g H.n v0 v1 v2 v3 v4) (k1 : Keep (all H) H H1) : GB (all H1) H1 g H.n v0 v1 v2 v3 v4 := h.mono fun b hb => by
    rcases hb with hb | hb
    · exact upA k1 b hb
    · exact hb.2
theorem gsame_ok {H : Heap} {a b : Gr} {c d : List Value} (ha : Rp.rep (all H) H a c) (hb : Rp.rep (all H) H b d) (sa : Small a) (sb : Small b) :
    ∃ H', Cl 25 [.agg c.toArray, .agg d.toArray] H (.bool (decide (a = b))) H' ∧ Keep (all H) H H' := by
  obtain ⟨v0, v1, v2, v3, v4, rfl, hnew, gb, k1⟩ := GB.enter (Rb.all H) ha
  generalize hH1 : H.push ⟨[v0, v1, v2, v3, v4], 1, true⟩ = H1 at hnew gb k1
  have ga1 := gb.allOf k1
  obtain ⟨u0, u1, u2, u3, u4, rfl, hnew2, gb2, k2⟩ := GB.enter (Rb.all H1) (Rp.mono (Rp.keep hb k1) (upA k1))
  generalize hH2 : H1.push ⟨[u0, u1, u2, u3, u4], 1, true⟩ = H2 at hnew2 gb2 k2
  have gb2 := gb2.allOf k2
  have ga2 := (ga1.keep k2).mono (upA k2)
  have k := k1.trans (k2.mono (upA k1))
  have t1 := texts_ok ga2.s0 gb2.s0 (by have := sa.t; omega)
  have t2 := texts_ok ga2.s3 gb2.s3 (by have := sa.n; omega)
  by_cases e1 : a.terms = b.terms
  · by_cases e2 : a.nons = b.nons
    · by_cases e3 : a.levels.length = b.levels.length
      · by_cases e4 : a.pats.length = b.pats.length
        · by_cases e5 : a.prods.length = b.prods.length
          · obtain ⟨H', q1, q2⟩ := samel_loop e3 (by have := sa.l; omega) e4 (by have := sa.p; omega) sa.s sb.s e5 (by have := sa.d; omega) (fun x hx => by have := sa.r x hx; omega) a.levels.length 0 (by omega) H2 ga2 gb2
            refine ⟨H', ?_, k.trans (q2.mono (upA k))⟩
            refine Ev.enter (fun n => f25_eq rfl n _ _ _) ?_
            simp only [f25, real_b, real_i, real_c, chk_t, bnd_some, bnd_up, iff_t, iff_f, gd_t, gd_f, wd_b, wd_u, pick_t, pick_f, b_lss, b_leq, b_gtr, b_geq, b_eql, b_neq, b_seql, b_sneq, b_add, b_sub, u_not, nilC_ptr, fAddr_ptr, Nat.zero_add, extr0, extr1, extr2, lenStr, decide_true, decide_false, bt_tt, bt_tf, bt_ft, bt_ff, bt_bne, Bool.not_true, Bool.not_false, Int.reduceBEq, Int.reduceBNe, hnew, hnew2, ga2.d0, gb2.d0]
            refine Ev.callC t1 ?_
            simp only [real_b, real_i, real_c, chk_t, bnd_some, bnd_up, iff_t, iff_f, gd_t, gd_f, wd_b, wd_u, pick_t, pick_f, b_lss, b_leq, b_gtr, b_geq, b_eql, b_neq, b_seql, b_sneq, b_add, b_sub, u_not, nilC_ptr, fAddr_ptr, Nat.zero_add, extr0, extr1, extr2, lenStr, decide_true, decide_false, bt_tt, bt_tf, bt_ft, bt_ff, bt_bne, Bool.not_true, Bool.not_false, Int.reduceBEq, Int.reduceBNe, show decide (a.terms = b.terms) = true by simpa using e1, ga2.d3, gb2.d3]
            refine Ev.callC t2 ?_
            simp only [real_b, real_i, real_c, chk_t, bnd_some, bnd_up, iff_t, iff_f, gd_t, gd_f, wd_b, wd_u, pick_t, pick_f, b_lss, b_leq, b_gtr, b_geq, b_eql, b_neq, b_seql, b_sneq, b_add, b_sub, u_not, nilC_ptr, fAddr_ptr, Nat.zero_add, extr0, extr1, extr2, lenStr, decide_true, decide_false, bt_tt, bt_tf, bt_ft, bt_ff, bt_bne, Bool.not_true, Bool.not_false, Int.reduceBEq, Int.reduceBNe, show decide (a.nons = b.nons) = true by simpa using e2, ga2.d1, gb2.d1, ga2.s1.lenS, gb2.s1.lenS, ga2.d2, gb2.d2, ga2.s2.lenS, gb2.s2.lenS, ga2.d4, gb2.d4, ga2.s4.lenS, gb2.s4.lenS, neq_len,
              show (a.levels.length == b.levels.length) = true by simpa using e3, show (a.pats.length == b.pats.length) = true by simpa using e4, show (a.prods.length == b.prods.length) = true by simpa using e5]
            have e : decide (a = b) = decide (a.levels.drop 0 = b.levels.drop 0 ∧ a.pats = b.pats ∧ a.prods = b.prods) := by
              have : a = b ↔ (a.levels.drop 0 = b.levels.drop 0 ∧ a.pats = b.pats ∧ a.prods = b.prods) := by
                rw [gr_eq, List.drop_zero, List.drop_zero]; simp [e1, e2]
              simp only [this]
            rw [e]
            exact q1.loop
          · refine ⟨H2, ?_, k⟩
            have e : decide (a = b) = false := by simp only [decide_eq_false_iff_not]; intro h; exact e5 (by rw [h])
            rw [e]
            refine Ev.enter (fun n => f25_eq rfl n _ _ _) ?_
            simp only [f25, real_b, real_i, real_c, chk_t, bnd_some, bnd_up, iff_t, iff_f, gd_t, gd_f, wd_b, wd_u, pick_t, pick_f, b_lss, b_leq, b_gtr, b_geq, b_eql, b_neq, b_seql, b_sneq, b_add, b_sub, u_not, nilC_ptr, fAddr_ptr, Nat.zero_add, extr0, extr1, extr2, lenStr, decide_true, decide_false, bt_tt, bt_tf, bt_ft, bt_ff, bt_bne, Bool.not_true, Bool.not_false, Int.reduceBEq, Int.reduceBNe, hnew, hnew2, ga2.d0, gb2.d0]
            refine Ev.callC t1 ?_
            simp only [real_b, real_i, real_c, chk_t, bnd_some, bnd_up, iff_t, iff_f, gd_t, gd_f, wd_b, wd_u, pick_t, pick_f, b_lss, b_leq, b_gtr, b_geq, b_eql, b_neq, b_seql, b_sneq, b_add, b_sub, u_not, nilC_ptr, fAddr_ptr, Nat.zero_add, extr0, extr1, extr2, lenStr, decide_true, decide_false, bt_tt, bt_tf, bt_ft, bt_ff, bt_bne, Bool.not_true, Bool.not_false, Int.reduceBEq, Int.reduceBNe, show decide (a.terms = b.terms) = true by simpa using e1, ga2.d3, gb2.d3]
            refine Ev.callC t2 ?_
            simp only [real_b, real_i, real_c, chk_t, bnd_some, bnd_up, iff_t, iff_f, gd_t, gd_f, wd_b, wd_u, pick_t, pick_f, b_lss, b_leq, b_gtr, b_geq, b_eql, b_neq, b_seql, b_sneq, b_add, b_sub, u_not, nilC_ptr, fAddr_ptr, Nat.zero_add, extr0, extr1, extr2, lenStr, decide_true, decide_false, bt_tt, bt_tf, bt_ft, bt_ff, bt_bne, Bool.not_true, Bool.not_false, Int.reduceBEq, Int.reduceBNe, show decide (a.nons = b.nons) = true by simpa using e2, ga2.d1, gb2.d1, ga2.s1.lenS, gb2.s1.lenS, ga2.d2, gb2.d2, ga2.s2.lenS, gb2.s2.lenS, ga2.d4, gb2.d4, ga2.s4.lenS, gb2.s4.lenS, neq_len,
              show (a.levels.length == b.levels.length) = true by simpa using e3, show (a.pats.length == b.pats.length) = true by simpa using e4, show (a.prods.length == b.prods.length) = false by simpa using e5]
            exact Ev.pure _
        · refine ⟨H2, ?_, k⟩
          have e : decide (a = b) = false := by simp only [decide_eq_false_iff_not]; intro h; exact e4 (by rw [h])
          rw [e]
          refine Ev.enter (fun n => f25_eq rfl n _ _ _) ?_
          simp only [f25, real_b, real_i, real_c, chk_t, bnd_some, bnd_up, iff_t, iff_f, gd_t, gd_f, wd_b, wd_u, pick_t, pick_f, b_lss, b_leq, b_gtr, b_geq, b_eql, b_neq, b_seql, b_sneq, b_add, b_sub, u_not, nilC_ptr, fAddr_ptr, Nat.zero_add, extr0, extr1, extr2, lenStr, decide_true, decide_false, bt_tt, bt_tf, bt_ft, bt_ff, bt_bne, Bool.not_true, Bool.not_false, Int.reduceBEq, Int.reduceBNe, hnew, hnew2, ga2.d0, gb2.d0]
          refine Ev.callC t1 ?_
          simp only [real_b, real_i, real_c, chk_t, bnd_some, bnd_up, iff_t, iff_f, gd_t, gd_f, wd_b, wd_u, pick_t, pick_f, b_lss, b_leq, b_gtr, b_geq, b_eql, b_neq, b_seql, b_sneq, b_add, b_sub, u_not, nilC_ptr, fAddr_ptr, Nat.zero_add, extr0, extr1, extr2, lenStr, decide_true, decide_false, bt_tt, bt_tf, bt_ft, bt_ff, bt_bne, Bool.not_true, Bool.not_false, Int.reduceBEq, Int.reduceBNe, show decide (a.terms = b.terms) = true by simpa using e1, ga2.d3, gb2.d3]
          refine Ev.callC t2 ?_
          simp only [real_b, real_i, real_c, chk_t, bnd_some, bnd_up, iff_t, iff_f, gd_t, gd_f, wd_b, wd_u, pick_t, pick_f, b_lss, b_leq, b_gtr, b_geq, b_eql, b_neq, b_seql, b_sneq, b_add, b_sub, u_not, nilC_ptr, fAddr_ptr, Nat.zero_add, extr0, extr1, extr2, lenStr, decide_true, decide_false, bt_tt, bt_tf, bt_ft, bt_ff, bt_bne, Bool.not_true, Bool.not_false, Int.reduceBEq, Int.reduceBNe, show decide (a.nons = b.nons) = true by simpa using e2, ga2.d1, gb2.d1, ga2.s1.lenS, gb2.s1.lenS, ga2.d2, gb2.d2, ga2.s2.lenS, gb2.s2.lenS, neq_len,
              show (a.levels.length == b.levels.length) = true by simpa using e3, show (a.pats.length == b.pats.length) = false by simpa using e4]
          exact Ev.pure _
      · refine ⟨H2, ?_, k⟩
        have e : decide (a = b) = false := by simp only [decide_eq_false_iff_not]; intro h; exact e3 (by rw [h])
        rw [e]
        refine Ev.enter (fun n => f25_eq rfl n _ _ _) ?_
        simp only [f25, real_b, real_i, real_c, chk_t, bnd_some, bnd_up, iff_t, iff_f, gd_t, gd_f, wd_b, wd_u, pick_t, pick_f, b_lss, b_leq, b_gtr, b_geq, b_eql, b_neq, b_seql, b_sneq, b_add, b_sub, u_not, nilC_ptr, fAddr_ptr, Nat.zero_add, extr0, extr1, extr2, lenStr, decide_true, decide_false, bt_tt, bt_tf, bt_ft, bt_ff, bt_bne, Bool.not_true, Bool.not_false, Int.reduceBEq, Int.reduceBNe, hnew, hnew2, ga2.d0, gb2.d0]
        refine Ev.callC t1 ?_
        simp only [real_b, real_i, real_c, chk_t, bnd_some, bnd_up, iff_t, iff_f, gd_t, gd_f, wd_b, wd_u, pick_t, pick_f, b_lss, b_leq, b_gtr, b_geq, b_eql, b_neq, b_seql, b_sneq, b_add, b_sub, u_not, nilC_ptr, fAddr_ptr, Nat.zero_add, extr0, extr1, extr2, lenStr, decide_true, decide_false, bt_tt, bt_tf, bt_ft, bt_ff, bt_bne, Bool.not_true, Bool.not_false, Int.reduceBEq, Int.reduceBNe, show decide (a.terms = b.terms) = true by simpa using e1, ga2.d3, gb2.d3]
        refine Ev.callC t2 ?_
        simp only [real_b, real_i, real_c, chk_t, bnd_some, bnd_up, iff_t, iff_f, gd_t, gd_f, wd_b, wd_u, pick_t, pick_f, b_lss, b_leq, b_gtr, b_geq, b_eql, b_neq, b_seql, b_sneq, b_add, b_sub, u_not, nilC_ptr, fAddr_ptr, Nat.zero_add, extr0, extr1, extr2, lenStr, decide_true, decide_false, bt_tt, bt_tf, bt_ft, bt_ff, bt_bne, Bool.not_true, Bool.not_false, Int.reduceBEq, Int.reduceBNe, show decide (a.nons = b.nons) = true by simpa using e2, ga2.d1, gb2.d1, ga2.s1.lenS, gb2.s1.lenS, neq_len,
              show (a.levels.length == b.levels.length) = false by simpa using e3]
        exact Ev.pure _
    · refine ⟨H2, ?_, k⟩
      have e : decide (a = b) = false := by simp only [decide_eq_false_iff_not]; intro h; exact e2 (by rw [h])
      rw [e]
      refine Ev.enter (fun n => f25_eq rfl n _ _ _) ?_
      simp only [f25, real_b, real_i, real_c, chk_t, bnd_some, bnd_up, iff_t, iff_f, gd_t, gd_f, wd_b, wd_u, pick_t, pick_f, b_lss, b_leq, b_gtr, b_geq, b_eql, b_neq, b_seql, b_sneq, b_add, b_sub, u_not, nilC_ptr, fAddr_ptr, Nat.zero_add, extr0, extr1, extr2, lenStr, decide_true, decide_false, bt_tt, bt_tf, bt_ft, bt_ff, bt_bne, Bool.not_true, Bool.not_false, Int.reduceBEq, Int.reduceBNe, hnew, hnew2, ga2.d0, gb2.d0]
      refine Ev.callC t1 ?_
      simp only [real_b, real_i, real_c, chk_t, bnd_some, bnd_up, iff_t, iff_f, gd_t, gd_f, wd_b, wd_u, pick_t, pick_f, b_lss, b_leq, b_gtr, b_geq, b_eql, b_neq, b_seql, b_sneq, b_add, b_sub, u_not, nilC_ptr, fAddr_ptr, Nat.zero_add, extr0, extr1, extr2, lenStr, decide_true, decide_false, bt_tt, bt_tf, bt_ft, bt_ff, bt_bne, Bool.not_true, Bool.not_false, Int.reduceBEq, Int.reduceBNe, show decide (a.terms = b.terms) = true by simpa using e1, ga2.d3, gb2.d3]
      refine Ev.callC t2 ?_
      simp only [real_b, real_i, real_c, chk_t, bnd_some, bnd_up, iff_t, iff_f, gd_t, gd_f, wd_b, wd_u, pick_t, pick_f, b_lss, b_leq, b_gtr, b_geq, b_eql, b_neq, b_seql, b_sneq, b_add, b_sub, u_not, nilC_ptr, fAddr_ptr, Nat.zero_add, extr0, extr1, extr2, lenStr, decide_true, decide_false, bt_tt, bt_tf, bt_ft, bt_ff, bt_bne, Bool.not_true, Bool.not_false, Int.reduceBEq, Int.reduceBNe, show decide (a.nons = b.nons) = false by simpa using e2]
      exact Ev.pure _
  · refine ⟨H2, ?_, k⟩
    have e : decide (a = b) = false := by simp only [decide_eq_false_iff_not]; intro h; exact e1 (by rw [h])
    rw [e]
    refine Ev.enter (fun n => f25_eq rfl n _ _ _) ?_
    simp only [f25, real_b, real_i, real_c, chk_t, bnd_some, bnd_up, iff_t, iff_f, gd_t, gd_f, wd_b, wd_u, pick_t, pick_f, b_lss, b_leq, b_gtr, b_geq, b_eql, b_neq, b_seql, b_sneq, b_add, b_sub, u_not, nilC_ptr, fAddr_ptr, Nat.zero_add, extr0, extr1, extr2, lenStr, decide_true, decide_false, bt_tt, bt_tf, bt_ft, bt_ff, bt_bne, Bool.not_true, Bool.not_false, Int.reduceBEq, Int.reduceBNe, hnew, hnew2, ga2.d0, gb2.d0]
    refine Ev.callC t1 ?_
    simp only [real_b, real_i, real_c, chk_t, bnd_some, bnd_up, iff_t, iff_f, gd_t, gd_f, wd_b, wd_u, pick_t, pick_f, b_lss, b_leq, b_gtr, b_geq, b_eql, b_neq, b_seql, b_sneq, b_add, b_sub, u_not, nilC_ptr, fAddr_ptr, Nat.zero_add, extr0, extr1, extr2, lenStr, decide_true, decide_false, bt_tt, bt_tf, bt_ft, bt_ff, bt_bne, Bool.not_true, Bool.not_false, Int.reduceBEq, Int.reduceBNe, show decide (a.terms = b.terms) = false by simpa using e1]
    exact Ev.pure _
end Go.Eng
