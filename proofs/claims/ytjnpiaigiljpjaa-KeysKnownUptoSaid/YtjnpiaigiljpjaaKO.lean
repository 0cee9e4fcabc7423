/- A grammar's part, as the program and as the reference write it. -/
import Derived.Test.YtjnpiaigiljpjaaKN
set_option linter.unusedVariables false
set_option linter.unusedSimpArgs false
namespace Go.Eng
open Go Go.Proofs

structure GB (R : Nat → Prop) (H : Heap) (g : Gr) (b : Nat) (v0 v1 v2 v3 v4 : Value) : Prop where
  box : Box R H b [v0, v1, v2, v3, v4]
  s0 : Sli R H g.terms v0
  s1 : Sli R H g.levels v1
  s2 : Sli R H g.pats v2
  s3 : Sli R H g.nons v3
  s4 : Sli R H g.prods v4
section
variable {R R' : Nat → Prop} {H H' : Heap} {g : Gr} {b : Nat} {v0 v1 v2 v3 v4 : Value}
theorem GB.keep (h : GB R H g b v0 v1 v2 v3 v4) (k : Keep R H H') : GB R H' g b v0 v1 v2 v3 v4 := ⟨h.box.keep k, h.s0.keep k, h.s1.keep k, h.s2.keep k, h.s3.keep k, h.s4.keep k⟩
theorem GB.mono (h : GB R H g b v0 v1 v2 v3 v4) (k : ∀ b, R b → R' b) : GB R' H g b v0 v1 v2 v3 v4 := ⟨h.box.mono k, h.s0.mono k, h.s1.mono k, h.s2.mono k, h.s3.mono k, h.s4.mono k⟩
theorem GB.d0 (h : GB R H g b v0 v1 v2 v3 v4) : ldC (ptr b 0) H = some (v0, H) := h.box.ld rfl
theorem GB.d1 (h : GB R H g b v0 v1 v2 v3 v4) : ldC (ptr b 1) H = some (v1, H) := h.box.ld rfl
theorem GB.d2 (h : GB R H g b v0 v1 v2 v3 v4) : ldC (ptr b 2) H = some (v2, H) := h.box.ld rfl
theorem GB.d3 (h : GB R H g b v0 v1 v2 v3 v4) : ldC (ptr b 3) H = some (v3, H) := h.box.ld rfl
theorem GB.d4 (h : GB R H g b v0 v1 v2 v3 v4) : ldC (ptr b 4) H = some (v4, H) := h.box.ld rfl
theorem GB.dA (h : GB R H g b v0 v1 v2 v3 v4) : ldA 5 (ptr b 0) H = some (.agg [v0, v1, v2, v3, v4].toArray, H) := h.box.all rfl
theorem rep_one {α : Type} [Rp α] {x : α} {cs : List Value} (h : Rp.rep R H x cs) : cs.all oneC = true := Rp.one h
end
/-- A grammar that is handed over is laid into a box. -/
theorem GB.enter {R : Nat → Prop} {H : Heap} {g : Gr} {cs : List Value} (hR : Rb R H) (h : Rp.rep R H g cs) : ∃ v0 v1 v2 v3 v4, cs = [v0, v1, v2, v3, v4] ∧ newV (Value.cells (.agg cs.toArray)).toList H = some (ptr H.n 0, H.push ⟨cs, 1, true⟩) ∧ GB (plus R H (H.push ⟨cs, 1, true⟩)) (H.push ⟨cs, 1, true⟩) g H.n v0 v1 v2 v3 v4 ∧ Keep (all H) H (H.push ⟨cs, 1, true⟩) := by
  have h1 := Rp.one h
  obtain ⟨v0, v1, v2, v3, v4, rfl, s0, s1, s2, s3, s4⟩ := rep_gr h
  have k : Keep R H (H.push ⟨[v0, v1, v2, v3, v4], 1, true⟩) := Keep.push hR
  exact ⟨v0, v1, v2, v3, v4, rfl, newV_box h1, ⟨push_box, s0.plus k, s1.plus k, s2.plus k, s3.plus k, s4.plus k⟩, push_keep⟩

/-- How much is written of a grammar. -/
def gvol (g : Gr) : Nat := (partN g).length
theorem gvol_eq (g : Gr) : gvol g = 3 + 2 * g.levels.length + (pdsN g.prods).length := by
  simp only [gvol, partN, List.length_append, lvN_len, List.length_cons, List.length_nil]; omega
def lvOk (g : Gr) : Bool := g.levels.length == g.terms.length
theorem neq_len {a b : Nat} : ((a : Int) != (b : Int)) = !(a == b) := by
  rw [Bool.eq_iff_iff]; simp; omega

theorem part_ok {R : Nat → Prop} {H : Heap} {g : Gr} {cs : List Value} {p : Value} {l : List Nat} {e : Int} (hS : St R H p l (.int .i64 e)) (hR : Rb R H) (hg : Rp.rep R H g cs) (hb : l.length + 9 * gvol g ≤ 1000000000000) (hpr : g.prods.length < 1000000000000) :
    ∃ H', Cl 37 [p, .agg cs.toArray] H p H' ∧ St R H' p (l ++ nbs (partN g)) (.int .i64 (eN (if lvOk g then e else 2) (partN g))) ∧ Keep R H H' := by
  have hmb : mostBytes = 140737488355328 := rfl
  rw [gvol_eq] at hb
  obtain ⟨v0, v1, v2, v3, v4, rfl, hnew, gb, k1⟩ := GB.enter hR hg
  generalize hH1 : H.push ⟨[v0, v1, v2, v3, v4], 1, true⟩ = H1 at hnew gb k1
  generalize hR1 : Eng.plus R H H1 = R1 at gb
  have rb1 : Rb R1 H1 := by rw [← hR1]; exact hR.plus k1.1
  have hS1 : St R1 H1 p l (.int .i64 e) := by rw [← hR1]; exact hS.plus k1
  have le1 : ∀ b, R b → R1 b := by rw [← hR1]; exact plus_le
  have kk1 : Keep R H H1 := k1.of_all hR
  have rest : ∀ (H2 : Heap) (e2 : Int), St R1 H2 p l (.int .i64 e2) → Keep R1 H1 H2 → ∃ H', Ev (fun n m => f37_J1 real (AC n) n p (ptr H.n 0) H2) (p, H') ∧ St R H' p (l ++ nbs (partN g)) (.int .i64 (eN e2 (partN g))) ∧ Keep R H H' := by
    intro H2 e2 hS2 kk2
    have g2 := gb.keep kk2
    have rb2 := rb1.mono kk2.1
    obtain ⟨H3, a1, a2, a3⟩ := numbers_lit [(g.terms.length : Int), (g.nons.length : Int)] (by simp) hS2 rb2 (by simp only [List.length_cons, List.length_nil]; omega)
    have l3 := nbs_len [(g.terms.length : Int), (g.nons.length : Int)]
    simp only [List.length_cons, List.length_nil] at l3
    obtain ⟨H4, b1, b2, b3⟩ := levels_ok a2 (rb2.mono a3.1) (g2.s1.keep a3) (by simp only [List.length_append]; omega)
    have l4 := nbs_len (lvN g.levels)
    rw [lvN_len] at l4
    obtain ⟨H5, c1, c2, c3⟩ := numbers_lit [(g.prods.length : Int)] (by simp) b2 (rb2.mono (a3.trans b3).1) (by simp only [List.length_append, List.length_cons, List.length_nil]; omega)
    have l5 := nbs_len [(g.prods.length : Int)]
    simp only [List.length_cons, List.length_nil] at l5
    have g5 := ((g2.keep a3).keep b3).keep c3
    obtain ⟨H', d1, d2, d3⟩ := parts_loop g.prods v4 hpr g.prods.length 0 (by omega) H5 p _ _ c2 (rb2.mono ((a3.trans b3).trans c3).1) g5.s4 (by simp only [List.length_append, List.drop_zero]; omega)
    rw [List.drop_zero] at d2
    refine ⟨H', ?_, ?_, kk1.trans ((kk2.trans (((a3.trans b3).trans c3).trans d3)).mono le1)⟩
    · simp only [f37_J1, real_b, real_i, real_c, chk_t, bnd_some, bnd_up, iff_t, iff_f, gd_t, gd_f, wd_b, wd_u, pick_t, pick_f, b_lss, b_leq, b_gtr, b_geq, b_eql, b_neq, b_seql, b_sneq, b_add, b_sub, u_not, nilC_ptr, fAddr_ptr, Nat.zero_add, extr0, extr1, extr2, lenStr, decide_true, decide_false, bt_tt, bt_tf, bt_ft, bt_ff, bt_bne, Bool.not_true, Bool.not_false, Int.reduceBEq, Int.reduceBNe, g2.d0, g2.d3, g2.s0.lenS, g2.s3.lenS]
      rw [lit2]
      simp only [real_b, real_i, real_c, chk_t, bnd_some, bnd_up, iff_t, iff_f, gd_t, gd_f, wd_b, wd_u, pick_t, pick_f, b_lss, b_leq, b_gtr, b_geq, b_eql, b_neq, b_seql, b_sneq, b_add, b_sub, u_not, nilC_ptr, fAddr_ptr, Nat.zero_add, extr0, extr1, extr2, lenStr, decide_true, decide_false, bt_tt, bt_tf, bt_ft, bt_ff, bt_bne, Bool.not_true, Bool.not_false, Int.reduceBEq, Int.reduceBNe]
      refine Ev.callC a1 ?_
      simp only [real_b, real_i, real_c, chk_t, bnd_some, bnd_up, iff_t, iff_f, gd_t, gd_f, wd_b, wd_u, pick_t, pick_f, b_lss, b_leq, b_gtr, b_geq, b_eql, b_neq, b_seql, b_sneq, b_add, b_sub, u_not, nilC_ptr, fAddr_ptr, Nat.zero_add, extr0, extr1, extr2, lenStr, decide_true, decide_false, bt_tt, bt_tf, bt_ft, bt_ff, bt_bne, Bool.not_true, Bool.not_false, Int.reduceBEq, Int.reduceBNe, g2.box.blkP rb2 a3, Bool.true_and, (g2.keep a3).d1]
      refine Ev.callC b1 ?_
      simp only [real_b, real_i, real_c, chk_t, bnd_some, bnd_up, iff_t, iff_f, gd_t, gd_f, wd_b, wd_u, pick_t, pick_f, b_lss, b_leq, b_gtr, b_geq, b_eql, b_neq, b_seql, b_sneq, b_add, b_sub, u_not, nilC_ptr, fAddr_ptr, Nat.zero_add, extr0, extr1, extr2, lenStr, decide_true, decide_false, bt_tt, bt_tf, bt_ft, bt_ff, bt_bne, Bool.not_true, Bool.not_false, Int.reduceBEq, Int.reduceBNe, g2.box.blkP rb2 a3, (g2.keep a3).box.blk b3, Bool.true_and, ((g2.keep a3).keep b3).d4, ((g2.keep a3).keep b3).s4.lenS]
      rw [lit1]
      simp only [real_b, real_i, real_c, chk_t, bnd_some, bnd_up, iff_t, iff_f, gd_t, gd_f, wd_b, wd_u, pick_t, pick_f, b_lss, b_leq, b_gtr, b_geq, b_eql, b_neq, b_seql, b_sneq, b_add, b_sub, u_not, nilC_ptr, fAddr_ptr, Nat.zero_add, extr0, extr1, extr2, lenStr, decide_true, decide_false, bt_tt, bt_tf, bt_ft, bt_ff, bt_bne, Bool.not_true, Bool.not_false, Int.reduceBEq, Int.reduceBNe]
      refine Ev.callC c1 ?_
      simp only [real_b, real_i, real_c, chk_t, bnd_some, bnd_up, iff_t, iff_f, gd_t, gd_f, wd_b, wd_u, pick_t, pick_f, b_lss, b_leq, b_gtr, b_geq, b_eql, b_neq, b_seql, b_sneq, b_add, b_sub, u_not, nilC_ptr, fAddr_ptr, Nat.zero_add, extr0, extr1, extr2, lenStr, decide_true, decide_false, bt_tt, bt_tf, bt_ft, bt_ff, bt_bne, Bool.not_true, Bool.not_false, Int.reduceBEq, Int.reduceBNe, g5.d4, g5.s4.lenS]
      exact d1.loop
    · have e1 : l ++ nbs (partN g) = l ++ nbs [(g.terms.length : Int), (g.nons.length : Int)] ++ nbs (lvN g.levels) ++ nbs [(g.prods.length : Int)] ++ nbs (pdsN g.prods) := by simp only [partN, nbs_app, List.append_assoc]
      have e3 : eN e2 (partN g) = eN (eN (eN (eN e2 [(g.terms.length : Int), (g.nons.length : Int)]) (lvN g.levels)) [(g.prods.length : Int)]) (pdsN g.prods) := by simp only [partN, eN_append]
      rw [e1, e3]
      exact d2.more fun b hb _ => le1 b hb
  by_cases hlv : lvOk g = true
  · obtain ⟨H', q1, q2, q3⟩ := rest H1 e hS1 (Keep.refl _ _)
    refine ⟨H', ?_, by rw [hlv]; exact q2, q3⟩
    refine Ev.enter (fun n => f37_eq rfl n _ _ _) ?_
    simp only [f37, real_b, real_i, real_c, chk_t, bnd_some, bnd_up, iff_t, iff_f, gd_t, gd_f, wd_b, wd_u, pick_t, pick_f, b_lss, b_leq, b_gtr, b_geq, b_eql, b_neq, b_seql, b_sneq, b_add, b_sub, u_not, nilC_ptr, fAddr_ptr, Nat.zero_add, extr0, extr1, extr2, lenStr, decide_true, decide_false, bt_tt, bt_tf, bt_ft, bt_ff, bt_bne, Bool.not_true, Bool.not_false, Int.reduceBEq, Int.reduceBNe, hnew, gb.d1, gb.s1.lenS, gb.d0, gb.s0.lenS, neq_len, show (g.levels.length == g.terms.length) = true from hlv]
    exact q1
  · have hlv : lvOk g = false := by simpa using hlv
    obtain ⟨kb, w, hp, o1, o2, o3, o4, o5, o6⟩ := hS1.op rb1
    obtain ⟨H2, t1, t2, t3⟩ := o5 (.int .i64 2) rfl rfl
    obtain ⟨H', q1, q2, q3⟩ := rest H2 2 t2 t3
    refine ⟨H', ?_, by rw [hlv]; exact q2, q3⟩
    refine Ev.enter (fun n => f37_eq rfl n _ _ _) ?_
    subst hp
    simp only [f37, real_b, real_i, real_c, chk_t, bnd_some, bnd_up, iff_t, iff_f, gd_t, gd_f, wd_b, wd_u, pick_t, pick_f, b_lss, b_leq, b_gtr, b_geq, b_eql, b_neq, b_seql, b_sneq, b_add, b_sub, u_not, nilC_ptr, fAddr_ptr, Nat.zero_add, extr0, extr1, extr2, lenStr, decide_true, decide_false, bt_tt, bt_tf, bt_ft, bt_ff, bt_bne, Bool.not_true, Bool.not_false, Int.reduceBEq, Int.reduceBNe, hnew, gb.d1, gb.s1.lenS, gb.d0, gb.s0.lenS, neq_len, show (g.levels.length == g.terms.length) = false from hlv, t1]
    exact q1

/-! ### the reference's -/
theorem okN_all2 (a b : Int) (bad : Bool) (r : List Int) : (bad || !okN a || !okN b || !r.all okN) = (bad || !(a :: b :: r).all okN) := by
  simp only [List.all_cons]
  cases bad <;> cases okN a <;> cases okN b <;> cases r.all okN <;> rfl
theorem okN_all1 (a : Int) (bad : Bool) (r : List Int) : (bad || !okN a || !r.all okN) = (bad || !(a :: r).all okN) := by
  simp only [List.all_cons]
  cases bad <;> cases okN a <;> cases r.all okN <;> rfl
theorem okN_app (bad : Bool) (a r : List Int) : (bad || !a.all okN || !r.all okN) = (bad || !(a ++ r).all okN) := by
  simp only [List.all_append]
  cases bad <;> cases a.all okN <;> cases r.all okN <;> rfl
theorem nbs_two (a b : Int) (r : List Int) : nbs (a :: b :: r) = nb a ++ nb b ++ nbs r := by simp [nbs]
theorem nbs_one (a : Int) (r : List Int) : nbs (a :: r) = nb a ++ nbs r := by simp [nbs]

/-- the numbers of Right, then the level, then what comes behind -/
theorem rright_loop {R : Nat → Prop} {x : Pd} {xb : Nat} {w p : Value} {gp i1 : Value} {cs : List Value} (hcs : cs = [.int .i64 x.L, w, .int .i64 x.V.N, .int .i64 x.V.K]) (hn : x.R.length < 9223372036854775807) {C : Nat → Nat → Value → Value → Value → Heap → Option (Value × Heap)} {res : Value} {HE : Heap → Prop} {nx : Int} (hnx : ∀ j : Int, i1 = .int .i64 j → IntKind.i64.wrap (j + 1) = nx) (hi1 : ∃ j : Int, i1 = .int .i64 j) : ∀ (k i : Nat), i + k = x.R.length → ∀ (H : Heap) (l : List Nat) (bad : Bool), St R H p l (.bool bad) → Rb R H → Box R H xb cs → Sli R H x.R w → l.length + 9 * (k + 2) ≤ 1000000000000 →
    (∀ H2, St R H2 p (l ++ nbs (x.R.drop i ++ [x.V.N, x.V.K])) (.bool (bad || !(x.R.drop i ++ [x.V.N, x.V.K]).all okN)) → Keep R H H2 → ∃ H', Ev (fun n m => C n m p gp (.int .i64 nx) H2) (res, H') ∧ HE H') →
    ∃ H', Ev3 (fun n m j => f38_L2 real (AC n) n (C n m) j p gp i1 (ptr xb 0) (.int .i64 (i : Int)) H) (res, H') ∧ HE H' := by
  have hmb : mostBytes = 140737488355328 := rfl
  obtain ⟨j1, rfl⟩ := hi1
  have hj := hnx j1 rfl
  intro k
  induction k with
  | zero =>
    intro i hi H l bad hS hR hB hW hb hk
    have hd : x.R.drop i = [] := List.drop_eq_nil_of_le (by omega)
    rw [hd, List.nil_append] at hk
    obtain ⟨H1, a1, a2, a3⟩ := number_ok (x := x.V.N) hS hR (by omega)
    have l1 := nb_len x.V.N
    obtain ⟨H2, b1, b2, b3⟩ := number_ok (x := x.V.K) a2 (hR.mono a3.1) (by simp only [List.length_append]; omega)
    have e1 : l ++ nb x.V.N ++ nb x.V.K = l ++ nbs [x.V.N, x.V.K] := by simp [nbs]
    have e2 : (bad || !okN x.V.N || !okN x.V.K) = (bad || ![x.V.N, x.V.K].all okN) := by have := okN_all2 x.V.N x.V.K bad []; simpa using this
    rw [e1, e2] at b2
    obtain ⟨H', q1, q2⟩ := hk H2 b2 (a3.trans b3)
    refine ⟨H', ?_, q2⟩
    subst hcs
    refine Ev3.step (fun n m j => f38_L2.eq_2 _ _ _ _ _ _ _ _ _ _ _) ?_
    simp only [real_b, real_i, real_c, chk_t, bnd_some, bnd_up, iff_t, iff_f, gd_t, gd_f, wd_b, wd_u, pick_t, pick_f, b_lss, b_leq, b_gtr, b_geq, b_eql, b_neq, b_seql, b_sneq, b_add, b_sub, u_not, nilC_ptr, fAddr_ptr, Nat.zero_add, extr0, extr1, extr2, lenStr, decide_true, decide_false, bt_tt, bt_tf, bt_ft, bt_ff, bt_bne, Bool.not_true, Bool.not_false, Int.reduceBEq, Int.reduceBNe, hB.ld (k := 1) (v := w) rfl, hW.lenS, idx_ge (show x.R.length ≤ i by omega), Nat.add_zero, hB.ld (k := 2) (v := .int .i64 x.V.N) rfl]
    refine Ev3.callC a1 ?_
    simp only [real_b, real_i, real_c, chk_t, bnd_some, bnd_up, iff_t, iff_f, gd_t, gd_f, wd_b, wd_u, pick_t, pick_f, b_lss, b_leq, b_gtr, b_geq, b_eql, b_neq, b_seql, b_sneq, b_add, b_sub, u_not, nilC_ptr, fAddr_ptr, Nat.zero_add, extr0, extr1, extr2, lenStr, decide_true, decide_false, bt_tt, bt_tf, bt_ft, bt_ff, bt_bne, Bool.not_true, Bool.not_false, Int.reduceBEq, Int.reduceBNe, (hB.keep a3).ld (k := 3) (v := .int .i64 x.V.K) rfl]
    refine Ev3.callC b1 ?_
    simp only [real_b, real_i, real_c, chk_t, bnd_some, bnd_up, iff_t, iff_f, gd_t, gd_f, wd_b, wd_u, pick_t, pick_f, b_lss, b_leq, b_gtr, b_geq, b_eql, b_neq, b_seql, b_sneq, b_add, b_sub, u_not, nilC_ptr, fAddr_ptr, Nat.zero_add, extr0, extr1, extr2, lenStr, decide_true, decide_false, bt_tt, bt_tf, bt_ft, bt_ff, bt_bne, Bool.not_true, Bool.not_false, Int.reduceBEq, Int.reduceBNe, hj]
    exact Ev3.of q1
  | succ k ih =>
    intro i hi H l bad hS hR hB hW hb hk
    have hlt : i < x.R.length := by omega
    obtain ⟨y, hy, hd⟩ := drop_at hlt
    rw [hd] at hk
    obtain ⟨q, q1, q2⟩ := hW.int hy
    obtain ⟨H1, a1, a2, a3⟩ := number_ok (x := y) hS hR (by omega)
    have l1 := nb_len y
    obtain ⟨H', r1, r2⟩ := ih (i + 1) (by omega) H1 _ _ a2 (hR.mono a3.1) (hB.keep a3) (hW.keep a3) (by simp only [List.length_append]; omega) (fun H2 h2 k2 => by
      refine hk H2 ?_ (a3.trans k2)
      rw [List.cons_append, nbs_one, ← okN_all1, ← List.append_assoc]
      exact h2)
    refine ⟨H', ?_, r2⟩
    subst hcs
    refine Ev3.step (fun n m j => f38_L2.eq_2 _ _ _ _ _ _ _ _ _ _ _) ?_
    simp only [real_b, real_i, real_c, chk_t, bnd_some, bnd_up, iff_t, iff_f, gd_t, gd_f, wd_b, wd_u, pick_t, pick_f, b_lss, b_leq, b_gtr, b_geq, b_eql, b_neq, b_seql, b_sneq, b_add, b_sub, u_not, nilC_ptr, fAddr_ptr, Nat.zero_add, extr0, extr1, extr2, lenStr, decide_true, decide_false, bt_tt, bt_tf, bt_ft, bt_ff, bt_bne, Bool.not_true, Bool.not_false, Int.reduceBEq, Int.reduceBNe, hB.ld (k := 1) (v := w) rfl, hW.lenS, idx_lt hlt, q1, q2]
    refine Ev3.callC a1 ?_
    simp only [real_b, real_i, real_c, chk_t, bnd_some, bnd_up, iff_t, iff_f, gd_t, gd_f, wd_b, wd_u, pick_t, pick_f, b_lss, b_leq, b_gtr, b_geq, b_eql, b_neq, b_seql, b_sneq, b_add, b_sub, u_not, nilC_ptr, fAddr_ptr, Nat.zero_add, extr0, extr1, extr2, lenStr, decide_true, decide_false, bt_tt, bt_tf, bt_ft, bt_ff, bt_bne, Bool.not_true, Bool.not_false, Int.reduceBEq, Int.reduceBNe, idx_up (show i < 9223372036854775807 by omega)]
    exact r1

theorem rparts_loop {R : Nat → Prop} {g : Gr} {gb : Nat} {v0 v1 v2 v3 v4 p : Value} (hn : g.prods.length < 9223372036854775807) : ∀ (k i : Nat), i + k = g.prods.length → ∀ (H : Heap) (l : List Nat) (bad : Bool), St R H p l (.bool bad) → Rb R H → GB R H g gb v0 v1 v2 v3 v4 → l.length + 9 * (pdsN (g.prods.drop i)).length ≤ 1000000000000 →
    ∃ H', Ev (fun n m => f38_L1 real (AC n) n m p (ptr gb 0) (.int .i64 (i : Int)) H) (.tuple #[], H') ∧ St R H' p (l ++ nbs (pdsN (g.prods.drop i))) (.bool (bad || !(pdsN (g.prods.drop i)).all okN)) ∧ Keep R H H' := by
  have hmb : mostBytes = 140737488355328 := rfl
  intro k
  induction k with
  | zero =>
    intro i hi H l bad hS hR hG hb
    have hd : g.prods.drop i = [] := List.drop_eq_nil_of_le (by omega)
    refine ⟨H, ?_, by simpa [hd, pdsN, nbs] using hS, Keep.refl _ _⟩
    refine Ev.step (fun n m => f38_L1.eq_2 _ _ _ _ _ _ _ _) ?_
    simp only [real_b, real_i, real_c, chk_t, bnd_some, bnd_up, iff_t, iff_f, gd_t, gd_f, wd_b, wd_u, pick_t, pick_f, b_lss, b_leq, b_gtr, b_geq, b_eql, b_neq, b_seql, b_sneq, b_add, b_sub, u_not, nilC_ptr, fAddr_ptr, Nat.zero_add, extr0, extr1, extr2, lenStr, decide_true, decide_false, bt_tt, bt_tf, bt_ft, bt_ff, bt_bne, Bool.not_true, Bool.not_false, Int.reduceBEq, Int.reduceBNe, hG.d4, hG.s4.lenS, idx_ge (show g.prods.length ≤ i by omega)]
    exact Ev.pure _
  | succ k ih =>
    intro i hi H l bad hS hR hG hb
    have hlt : i < g.prods.length := by omega
    obtain ⟨x, hx, hd⟩ := drop_at hlt
    rw [hd, pdsN_cons] at hb
    have hpl : (pdN x).length = x.R.length + 4 := by simp only [pdN, List.length_append, List.length_cons, List.length_nil]; omega
    simp only [List.length_append, hpl] at hb
    obtain ⟨b, o, c, g1, g2, g3, g4, g5⟩ := hG.s4.rec hx
    obtain ⟨w, rfl, hw, hr1, hr2, hr3⟩ := rep_pd g3
    let cs : List Value := [.int .i64 x.L, w, .int .i64 x.V.N, .int .i64 x.V.K]
    have hw1 : oneC w = true := by obtain ⟨_, h, _⟩ := hw; exact h.one
    have h1 : cs.all oneC = true := by simp [cs, hw1, oneC, Value.oneCell']; exact hw1
    let H1 := (H.push ⟨[.int .i64 0, .slice none 0 0, .int .i64 0, .int .i64 0], 1, true⟩).upd H.n (some ⟨cs, 1, true⟩)
    have k1 : Keep (all H) H H1 := push_upd (Rb.all H)
    have bx : Box (plus R H H1) H1 H.n cs := push_upd_box
    have st : stV 4 (ptr H.n 0) (.agg [.int .i64 x.L, w, .int .i64 x.V.N, .int .i64 x.V.K].toArray) (H.push ⟨[.int .i64 0, .slice none 0 0, .int .i64 0, .int .i64 0], 1, true⟩) = some (undef, H1) := push_st rfl rfl h1
    have hR1 : Rb (plus R H H1) H1 := hR.plus k1.1
    have kR1 : Keep R H H1 := k1.of_all hR
    have hw2 : Sli (plus R H H1) H1 x.R w := hw.plus kR1
    have hG1 : GB (plus R H H1) H1 g gb v0 v1 v2 v3 v4 := (hG.keep kR1).mono plus_le
    obtain ⟨H2, a1, a2, a3⟩ := number_ok (x := x.L) (hS.plus k1) hR1 (by omega)
    have l2 := nb_len x.L
    obtain ⟨H3, b1, b2, b3⟩ := number_ok (x := (x.R.length : Int)) a2 (hR1.mono a3.1) (by simp only [List.length_append]; omega)
    have l3 := nb_len (x.R.length : Int)
    have k3 := a3.trans b3
    have hnx : ∀ j : Int, Value.int .i64 (i : Int) = .int .i64 j → IntKind.i64.wrap (j + 1) = ((i + 1 : Nat) : Int) := fun j hj => by
      injection hj with _ hj; subst hj
      exact idx_up (by omega)
    obtain ⟨H', q1, q2⟩ := rright_loop (cs := cs) (HE := fun H' => St R H' p (l ++ nbs (pdsN (g.prods.drop i))) (.bool (bad || !(pdsN (g.prods.drop i)).all okN)) ∧ Keep R H H') (C := fun n m => f38_L1 real (AC n) n m) (res := .tuple #[]) rfl (by omega) (nx := ((i + 1 : Nat) : Int)) hnx ⟨_, rfl⟩ x.R.length 0 (by omega) H3 _ _ b2 (hR1.mono k3.1) (bx.keep k3) (hw2.keep k3) (by simp only [List.length_append]; omega) (fun H4 s4 k4 => by
      have k34 := k3.trans k4
      have kR4 : Keep R H H4 := kR1.trans (k34.mono plus_le)
      have lr := nbs_len (x.R.drop 0 ++ [x.V.N, x.V.K])
      simp only [List.drop_zero, List.length_append, List.length_cons, List.length_nil] at lr
      obtain ⟨H', r1, r2, r3⟩ := ih (i + 1) (by omega) H4 _ _ (s4.more fun b hb _ => plus_le b hb) (hR.mono kR4.1) (hG.keep kR4) (by simp only [List.length_append, List.drop_zero] at lr ⊢; omega)
      refine ⟨H', ?_, ?_, kR4.trans r3⟩
      · exact r1
      · rw [hd, pdsN_cons]
        have e1 : l ++ nbs (pdN x ++ pdsN (g.prods.drop (i + 1))) = l ++ nb x.L ++ nb (x.R.length : Int) ++ nbs (x.R.drop 0 ++ [x.V.N, x.V.K]) ++ nbs (pdsN (g.prods.drop (i + 1))) := by
          simp only [pdN, nbs_app, List.drop_zero, List.append_assoc, nbs_two]
          simp [nbs]
        have e2 : (bad || !(pdN x ++ pdsN (g.prods.drop (i + 1))).all okN) = (bad || !okN x.L || !okN (x.R.length : Int) || !(x.R.drop 0 ++ [x.V.N, x.V.K]).all okN || !(pdsN (g.prods.drop (i + 1))).all okN) := by
          rw [okN_all2, okN_app]
          simp [pdN]
        rw [e1, e2]
        exact r2)
    refine ⟨H', ?_, q2⟩
    refine Ev.step (fun n m => f38_L1.eq_2 _ _ _ _ _ _ _ _) ?_
    simp only [real_b, real_i, real_c, chk_t, bnd_some, bnd_up, iff_t, iff_f, gd_t, gd_f, wd_b, wd_u, pick_t, pick_f, b_lss, b_leq, b_gtr, b_geq, b_eql, b_neq, b_seql, b_sneq, b_add, b_sub, u_not, nilC_ptr, fAddr_ptr, Nat.zero_add, extr0, extr1, extr2, lenStr, decide_true, decide_false, bt_tt, bt_tf, bt_ft, bt_ff, bt_bne, Bool.not_true, Bool.not_false, Int.reduceBEq, Int.reduceBNe, hG.d4, hG.s4.lenS, idx_lt hlt, show iAddrS 4 v4 (.int .i64 i) = some (ptr b o) from g1, show ldA 4 (ptr b o) H = _ from g5, newV_box (show List.all [Value.int .i64 0, .slice none 0 0, .int .i64 0, .int .i64 0] oneC = true from rfl), st,
        bx.ld (k := 0) (v := .int .i64 x.L) rfl]
    refine Ev.callC a1 ?_
    simp only [real_b, real_i, real_c, chk_t, bnd_some, bnd_up, iff_t, iff_f, gd_t, gd_f, wd_b, wd_u, pick_t, pick_f, b_lss, b_leq, b_gtr, b_geq, b_eql, b_neq, b_seql, b_sneq, b_add, b_sub, u_not, nilC_ptr, fAddr_ptr, Nat.zero_add, extr0, extr1, extr2, lenStr, decide_true, decide_false, bt_tt, bt_tf, bt_ft, bt_ff, bt_bne, Bool.not_true, Bool.not_false, Int.reduceBEq, Int.reduceBNe, (bx.keep a3).ld (k := 1) (v := w) rfl, hw2.lenS]
    refine Ev.callC b1 ?_
    exact q1.close
end Go.Eng
