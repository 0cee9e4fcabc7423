/- Parsers' and tables' keys. -/
import Derived.Test.YtjnpiaigiljpjaaKO
set_option linter.unusedVariables false
set_option linter.unusedSimpArgs false
namespace Go.Eng
open Go Go.Proofs

theorem rlevels_loop {R : Nat → Prop} {g : Gr} {gb : Nat} {v0 v1 v2 v3 v4 p : Value} (hn : g.levels.length < 9223372036854775807) (hpr : g.prods.length < 1000000000000) : ∀ (k i : Nat), i + k = g.levels.length → ∀ (H : Heap) (l : List Nat) (bad : Bool), St R H p l (.bool bad) → Rb R H → GB R H g gb v0 v1 v2 v3 v4 → l.length + 9 * (2 * k + 1 + (pdsN g.prods).length) ≤ 1000000000000 →
    ∃ H', Ev (fun n m => f38_L0 real (AC n) n m p (ptr gb 0) (.int .i64 (i : Int)) H) (.tuple #[], H') ∧ St R H' p (l ++ nbs (lvN (g.levels.drop i) ++ (g.prods.length : Int) :: pdsN g.prods)) (.bool (bad || !(lvN (g.levels.drop i) ++ (g.prods.length : Int) :: pdsN g.prods).all okN)) ∧ Keep R H H' := by
  have hmb : mostBytes = 140737488355328 := rfl
  intro k
  induction k with
  | zero =>
    intro i hi H l bad hS hR hG hb
    have hd : g.levels.drop i = [] := List.drop_eq_nil_of_le (by omega)
    obtain ⟨H1, a1, a2, a3⟩ := number_ok (x := (g.prods.length : Int)) hS hR (by omega)
    have l1 := nb_len (g.prods.length : Int)
    obtain ⟨H', q1, q2, q3⟩ := rparts_loop (by omega) g.prods.length 0 (by omega) H1 _ _ a2 (hR.mono a3.1) (hG.keep a3) (by simp only [List.length_append, List.drop_zero]; omega)
    refine ⟨H', ?_, ?_, a3.trans q3⟩
    · refine Ev.step (fun n m => f38_L0.eq_2 _ _ _ _ _ _ _ _) ?_
      simp only [real_b, real_i, real_c, chk_t, bnd_some, bnd_up, iff_t, iff_f, gd_t, gd_f, wd_b, wd_u, pick_t, pick_f, b_lss, b_leq, b_gtr, b_geq, b_eql, b_neq, b_seql, b_sneq, b_add, b_sub, u_not, nilC_ptr, fAddr_ptr, Nat.zero_add, extr0, extr1, extr2, lenStr, decide_true, decide_false, bt_tt, bt_tf, bt_ft, bt_ff, bt_bne, Bool.not_true, Bool.not_false, Int.reduceBEq, Int.reduceBNe, hG.d1, hG.s1.lenS, idx_ge (show g.levels.length ≤ i by omega), hG.d4, hG.s4.lenS]
      refine Ev.callC a1 ?_
      exact q1.loop
    · rw [hd]
      simp only [lvN, List.flatMap_nil, List.nil_append]
      rw [nbs_one, ← List.append_assoc, ← okN_all1]
      simpa using q2
  | succ k ih =>
    intro i hi H l bad hS hR hG hb
    have hlt : i < g.levels.length := by omega
    obtain ⟨x, hx, hd⟩ := drop_at hlt
    obtain ⟨b, o, c, g1, g2, g3, g4, g5⟩ := hG.s1.rec hx
    obtain ⟨rfl, hr1, hr2⟩ := rep_lv g3
    obtain ⟨H1, a1, a2, a3⟩ := number_ok (x := x.N) hS hR (by omega)
    have l1 := nb_len x.N
    obtain ⟨H2, b1, b2, b3⟩ := number_ok (x := x.K) a2 (hR.mono a3.1) (by simp only [List.length_append]; omega)
    have l2 := nb_len x.K
    have k2 := a3.trans b3
    obtain ⟨H', q1, q2, q3⟩ := ih (i + 1) (by omega) H2 _ _ b2 (hR.mono k2.1) (hG.keep k2) (by simp only [List.length_append]; omega)
    have hx1 := (hG.keep a3).s1.rec hx
    obtain ⟨b', o', c', g1', g2', g3', g4', g5'⟩ := hx1
    obtain ⟨rfl, _, _⟩ := rep_lv g3'
    refine ⟨H', ?_, ?_, k2.trans q3⟩
    · refine Ev.step (fun n m => f38_L0.eq_2 _ _ _ _ _ _ _ _) ?_
      simp only [real_b, real_i, real_c, chk_t, bnd_some, bnd_up, iff_t, iff_f, gd_t, gd_f, wd_b, wd_u, pick_t, pick_f, b_lss, b_leq, b_gtr, b_geq, b_eql, b_neq, b_seql, b_sneq, b_add, b_sub, u_not, nilC_ptr, fAddr_ptr, Nat.zero_add, extr0, extr1, extr2, lenStr, decide_true, decide_false, bt_tt, bt_tf, bt_ft, bt_ff, bt_bne, Bool.not_true, Bool.not_false, Int.reduceBEq, Int.reduceBNe, hG.d1, hG.s1.lenS, idx_lt hlt, show iAddrS 2 v1 (.int .i64 i) = some (ptr b o) from g1, g4 0 _ rfl]
      refine Ev.callC a1 ?_
      simp only [real_b, real_i, real_c, chk_t, bnd_some, bnd_up, iff_t, iff_f, gd_t, gd_f, wd_b, wd_u, pick_t, pick_f, b_lss, b_leq, b_gtr, b_geq, b_eql, b_neq, b_seql, b_sneq, b_add, b_sub, u_not, nilC_ptr, fAddr_ptr, Nat.zero_add, extr0, extr1, extr2, lenStr, decide_true, decide_false, bt_tt, bt_tf, bt_ft, bt_ff, bt_bne, Bool.not_true, Bool.not_false, Int.reduceBEq, Int.reduceBNe, (hG.keep a3).d1, show iAddrS 2 v1 (.int .i64 i) = some (ptr b' o') from g1', g4' 1 _ rfl]
      refine Ev.callC b1 ?_
      simp only [real_b, real_i, real_c, chk_t, bnd_some, bnd_up, iff_t, iff_f, gd_t, gd_f, wd_b, wd_u, pick_t, pick_f, b_lss, b_leq, b_gtr, b_geq, b_eql, b_neq, b_seql, b_sneq, b_add, b_sub, u_not, nilC_ptr, fAddr_ptr, Nat.zero_add, extr0, extr1, extr2, lenStr, decide_true, decide_false, bt_tt, bt_tf, bt_ft, bt_ff, bt_bne, Bool.not_true, Bool.not_false, Int.reduceBEq, Int.reduceBNe, idx_up (show i < 9223372036854775807 by omega)]
      exact q1
    · rw [hd, lvN_cons]
      simp only [List.cons_append]
      rw [nbs_two, ← okN_all2, ← List.append_assoc, ← List.append_assoc]
      exact q2
theorem rpart_ok {R : Nat → Prop} {H : Heap} {g : Gr} {cs : List Value} {p : Value} {l : List Nat} {bad : Bool} (hS : St R H p l (.bool bad)) (hR : Rb R H) (hg : Rp.rep R H g cs) (hb : l.length + 9 * gvol g ≤ 1000000000000) (hpr : g.prods.length < 1000000000000) :
    ∃ H', Cl 38 [p, .agg cs.toArray] H (.tuple #[]) H' ∧ St R H' p (l ++ nbs (partN g)) (.bool (bad || !lvOk g || !(partN g).all okN)) ∧ Keep R H H' := by
  have hmb : mostBytes = 140737488355328 := rfl
  rw [gvol_eq] at hb
  obtain ⟨v0, v1, v2, v3, v4, rfl, hnew, gb, k1⟩ := GB.enter hR hg
  generalize hH1 : H.push ⟨[v0, v1, v2, v3, v4], 1, true⟩ = H1 at hnew gb k1
  generalize hR1 : Eng.plus R H H1 = R1 at gb
  have rb1 : Rb R1 H1 := by rw [← hR1]; exact hR.plus k1.1
  have hS1 : St R1 H1 p l (.bool bad) := by rw [← hR1]; exact hS.plus k1
  have le1 : ∀ b, R b → R1 b := by rw [← hR1]; exact plus_le
  have kk1 : Keep R H H1 := k1.of_all hR
  have rest : ∀ (H2 : Heap) (bd : Bool), St R1 H2 p l (.bool bd) → Keep R1 H1 H2 → ∃ H', Ev (fun n m => f38_J1 real (AC n) n p (ptr H.n 0) H2) (.tuple #[], H') ∧ St R H' p (l ++ nbs (partN g)) (.bool (bd || !(partN g).all okN)) ∧ Keep R H H' := by
    intro H2 bd hS2 kk2
    have g2 := gb.keep kk2
    have rb2 := rb1.mono kk2.1
    obtain ⟨H3, a1, a2, a3⟩ := number_ok (x := (g.terms.length : Int)) hS2 rb2 (by omega)
    have l3 := nb_len (g.terms.length : Int)
    obtain ⟨H4, b1, b2, b3⟩ := number_ok (x := (g.nons.length : Int)) a2 (rb2.mono a3.1) (by simp only [List.length_append]; omega)
    have l4 := nb_len (g.nons.length : Int)
    have k4 := a3.trans b3
    obtain ⟨H', q1, q2, q3⟩ := rlevels_loop (by omega) hpr g.levels.length 0 (by omega) H4 _ _ b2 (rb2.mono k4.1) (g2.keep k4) (by simp only [List.length_append]; omega)
    refine ⟨H', ?_, ?_, kk1.trans ((kk2.trans (k4.trans q3)).mono le1)⟩
    · simp only [f38_J1, real_b, real_i, real_c, chk_t, bnd_some, bnd_up, iff_t, iff_f, gd_t, gd_f, wd_b, wd_u, pick_t, pick_f, b_lss, b_leq, b_gtr, b_geq, b_eql, b_neq, b_seql, b_sneq, b_add, b_sub, u_not, nilC_ptr, fAddr_ptr, Nat.zero_add, extr0, extr1, extr2, lenStr, decide_true, decide_false, bt_tt, bt_tf, bt_ft, bt_ff, bt_bne, Bool.not_true, Bool.not_false, Int.reduceBEq, Int.reduceBNe, g2.d0, g2.s0.lenS]
      refine Ev.callC a1 ?_
      simp only [real_b, real_i, real_c, chk_t, bnd_some, bnd_up, iff_t, iff_f, gd_t, gd_f, wd_b, wd_u, pick_t, pick_f, b_lss, b_leq, b_gtr, b_geq, b_eql, b_neq, b_seql, b_sneq, b_add, b_sub, u_not, nilC_ptr, fAddr_ptr, Nat.zero_add, extr0, extr1, extr2, lenStr, decide_true, decide_false, bt_tt, bt_tf, bt_ft, bt_ff, bt_bne, Bool.not_true, Bool.not_false, Int.reduceBEq, Int.reduceBNe, (g2.keep a3).d3, (g2.keep a3).s3.lenS]
      refine Ev.callC b1 ?_
      exact q1.loop
    · have e1 : partN g = (g.terms.length : Int) :: (g.nons.length : Int) :: (lvN (g.levels.drop 0) ++ (g.prods.length : Int) :: pdsN g.prods) := by simp [partN]
      rw [e1, nbs_two, ← okN_all2, ← List.append_assoc, ← List.append_assoc]
      exact q2.more fun b hb _ => le1 b hb
  by_cases hlv : lvOk g = true
  · obtain ⟨H', q1, q2, q3⟩ := rest H1 bad hS1 (Keep.refl _ _)
    refine ⟨H', ?_, by rw [hlv]; simpa using q2, q3⟩
    refine Ev.enter (fun n => f38_eq rfl n _ _ _) ?_
    simp only [f38, real_b, real_i, real_c, chk_t, bnd_some, bnd_up, iff_t, iff_f, gd_t, gd_f, wd_b, wd_u, pick_t, pick_f, b_lss, b_leq, b_gtr, b_geq, b_eql, b_neq, b_seql, b_sneq, b_add, b_sub, u_not, nilC_ptr, fAddr_ptr, Nat.zero_add, extr0, extr1, extr2, lenStr, decide_true, decide_false, bt_tt, bt_tf, bt_ft, bt_ff, bt_bne, Bool.not_true, Bool.not_false, Int.reduceBEq, Int.reduceBNe, hnew, gb.d1, gb.s1.lenS, gb.d0, gb.s0.lenS, neq_len, show (g.levels.length == g.terms.length) = true from hlv]
    exact q1
  · have hlv : lvOk g = false := by simpa using hlv
    obtain ⟨kb, w, hp, o1, o2, o3, o4, o5, o6⟩ := hS1.op rb1
    obtain ⟨H2, t1, t2, t3⟩ := o5 (.bool true) rfl rfl
    obtain ⟨H', q1, q2, q3⟩ := rest H2 true t2 t3
    refine ⟨H', ?_, by rw [hlv]; simpa using q2, q3⟩
    refine Ev.enter (fun n => f38_eq rfl n _ _ _) ?_
    subst hp
    simp only [f38, real_b, real_i, real_c, chk_t, bnd_some, bnd_up, iff_t, iff_f, gd_t, gd_f, wd_b, wd_u, pick_t, pick_f, b_lss, b_leq, b_gtr, b_geq, b_eql, b_neq, b_seql, b_sneq, b_add, b_sub, u_not, nilC_ptr, fAddr_ptr, Nat.zero_add, extr0, extr1, extr2, lenStr, decide_true, decide_false, bt_tt, bt_tf, bt_ft, bt_ff, bt_bne, Bool.not_true, Bool.not_false, Int.reduceBEq, Int.reduceBNe, hnew, gb.d1, gb.s1.lenS, gb.d0, gb.s0.lenS, neq_len, show (g.levels.length == g.terms.length) = false from hlv, t1]
    exact q1

/-! ### keys -/
def gE (g : Gr) : Int := if lvOk g && (partN g).all okN then 0 else 2
def pkey (g : Gr) : List Nat := nb 3 ++ nbs (partN g)
theorem gE_eq (g : Gr) : eN (if lvOk g then 0 else 2) (partN g) = gE g := by
  unfold eN gE
  cases lvOk g <;> cases (partN g).all okN <;> rfl
theorem gE_bad (g : Gr) : (if (false || !lvOk g || !(partN g).all okN) = true then 2 else 0) = gE g := by
  unfold gE
  cases lvOk g <;> cases (partN g).all okN <;> rfl
theorem parser_ok {H : Heap} {g : Gr} {cs : List Value} (hg : Rp.rep (all H) H g cs) (hb : 9 * gvol g ≤ 100000000000) (hpr : g.prods.length < 1000000000000) :
    ∃ w H', Cl 21 [.agg cs.toArray] H (.tuple #[w, .int .i64 (endE (gE g) (pkey g))]) H' ∧ Acc (all H) H' 1 w (endL (gE g) (pkey g)).length (B (endL (gE g) (pkey g))) ∧ Keep (all H) H H' := by
  obtain ⟨v0, v1, v2, v3, v4, rfl, hnew, gb, k1⟩ := GB.enter (Rb.all H) hg
  generalize hH1 : H.push ⟨[v0, v1, v2, v3, v4], 1, true⟩ = H1 at hnew gb k1
  have gb1 : GB (all H1) H1 g H.n v0 v1 v2 v3 v4 := gb.mono fun b hb => by
    rcases hb with hb | hb
    · exact upA k1 b hb
    · exact hb.2
  obtain ⟨p, H2, b1, b2, b3⟩ := begin_ok H1 3
  have he : eN 0 [3] = 0 := by decide
  rw [he] at b2
  have h9 := nb_len 3
  have gb2 := gb1.keep b3
  obtain ⟨H3, c1, c2, c3⟩ := part_ok b2 ((Rb.all H1).mono b3.1) (rep_gr_mk gb2.s0 gb2.s1 gb2.s2 gb2.s3 gb2.s4) (by omega) hpr
  rw [gE_eq] at c2
  have hl := nbs_len (partN g)
  have k3 := b3.trans c3
  obtain ⟨w, d1, d2⟩ := ends_ok c2 ((Rb.all H1).mono k3.1) (by simp only [List.length_append]; simp only [gvol] at hb; omega)
  refine ⟨w, H3, ?_, d2.low (upA k1), k1.trans (k3.mono (upA k1))⟩
  refine Ev.enter (fun n => f21_eq rfl n _ _) ?_
  simp only [f21, real_b, real_i, real_c, chk_t, bnd_some, bnd_up, iff_t, iff_f, gd_t, gd_f, wd_b, wd_u, pick_t, pick_f, b_lss, b_leq, b_gtr, b_geq, b_eql, b_neq, b_seql, b_sneq, b_add, b_sub, u_not, nilC_ptr, fAddr_ptr, Nat.zero_add, extr0, extr1, extr2, lenStr, decide_true, decide_false, bt_tt, bt_tf, bt_ft, bt_ff, bt_bne, Bool.not_true, Bool.not_false, Int.reduceBEq, Int.reduceBNe, hnew]
  refine Ev.callC b1 ?_
  simp only [real_b, real_i, real_c, chk_t, bnd_some, bnd_up, iff_t, iff_f, gd_t, gd_f, wd_b, wd_u, pick_t, pick_f, b_lss, b_leq, b_gtr, b_geq, b_eql, b_neq, b_seql, b_sneq, b_add, b_sub, u_not, nilC_ptr, fAddr_ptr, Nat.zero_add, extr0, extr1, extr2, lenStr, decide_true, decide_false, bt_tt, bt_tf, bt_ft, bt_ff, bt_bne, Bool.not_true, Bool.not_false, Int.reduceBEq, Int.reduceBNe, gb1.box.blk b3, Bool.true_and, gb2.dA]
  refine Ev.callC c1 ?_
  refine Ev.callC d1 ?_
  simp only [real_b, real_i, real_c, chk_t, bnd_some, bnd_up, iff_t, iff_f, gd_t, gd_f, wd_b, wd_u, pick_t, pick_f, b_lss, b_leq, b_gtr, b_geq, b_eql, b_neq, b_seql, b_sneq, b_add, b_sub, u_not, nilC_ptr, fAddr_ptr, Nat.zero_add, extr0, extr1, extr2, lenStr, decide_true, decide_false, bt_tt, bt_tf, bt_ft, bt_ff, bt_bne, Bool.not_true, Bool.not_false, Int.reduceBEq, Int.reduceBNe]
  exact Ev.pure _
theorem rparser_ok {H : Heap} {g : Gr} {cs : List Value} (hg : Rp.rep (all H) H g cs) (hb : 9 * gvol g ≤ 100000000000) (hpr : g.prods.length < 1000000000000) :
    ∃ w H', Cl 22 [.agg cs.toArray] H (.tuple #[w, .int .i64 (endE (gE g) (pkey g))]) H' ∧ Acc (all H) H' 1 w (endL (gE g) (pkey g)).length (B (endL (gE g) (pkey g))) ∧ Keep (all H) H H' := by
  have hmb : mostBytes = 140737488355328 := rfl
  obtain ⟨v0, v1, v2, v3, v4, rfl, hnew, gb, k1⟩ := GB.enter (Rb.all H) hg
  generalize hH1 : H.push ⟨[v0, v1, v2, v3, v4], 1, true⟩ = H1 at hnew gb k1
  have gb1 : GB (all H1) H1 g H.n v0 v1 v2 v3 v4 := gb.mono fun b hb => by
    rcases hb with hb | hb
    · exact upA k1 b hb
    · exact hb.2
  obtain ⟨H2, b0, b1, b2, b3⟩ := rbegin H1
  have h9 := nb_len 3
  obtain ⟨H3, n1, n2, n3⟩ := number_ok (x := 3) b2 ((Rb.all H1).mono b3.1) (by simp; omega)
  rw [List.nil_append, show (false || !okN 3) = false by decide] at n2
  have k3 := b3.trans n3
  have gb3 := gb1.keep k3
  obtain ⟨H4, c1, c2, c3⟩ := rpart_ok n2 ((Rb.all H1).mono k3.1) (rep_gr_mk gb3.s0 gb3.s1 gb3.s2 gb3.s3 gb3.s4) (by omega) hpr
  have hl := nbs_len (partN g)
  have k4 := k3.trans c3
  obtain ⟨w, d1, d2⟩ := rends_ok c2 ((Rb.all H1).mono k4.1) (by simp only [List.length_append]; simp only [gvol] at hb; omega)
  rw [gE_bad] at d1 d2
  refine ⟨w, H4, ?_, d2.low (upA k1), k1.trans (k4.mono (upA k1))⟩
  refine Ev.enter (fun n => f22_eq rfl n _ _) ?_
  simp only [f22, real_b, real_i, real_c, chk_t, bnd_some, bnd_up, iff_t, iff_f, gd_t, gd_f, wd_b, wd_u, pick_t, pick_f, b_lss, b_leq, b_gtr, b_geq, b_eql, b_neq, b_seql, b_sneq, b_add, b_sub, u_not, nilC_ptr, fAddr_ptr, Nat.zero_add, extr0, extr1, extr2, lenStr, decide_true, decide_false, bt_tt, bt_tf, bt_ft, bt_ff, bt_bne, Bool.not_true, Bool.not_false, Int.reduceBEq, Int.reduceBNe, hnew, b0, b1]
  refine Ev.callC n1 ?_
  simp only [real_b, real_i, real_c, chk_t, bnd_some, bnd_up, iff_t, iff_f, gd_t, gd_f, wd_b, wd_u, pick_t, pick_f, b_lss, b_leq, b_gtr, b_geq, b_eql, b_neq, b_seql, b_sneq, b_add, b_sub, u_not, nilC_ptr, fAddr_ptr, Nat.zero_add, extr0, extr1, extr2, lenStr, decide_true, decide_false, bt_tt, bt_tf, bt_ft, bt_ff, bt_bne, Bool.not_true, Bool.not_false, Int.reduceBEq, Int.reduceBNe, gb3.dA]
  refine Ev.callC c1 ?_
  refine Ev.callC d1 ?_
  simp only [real_b, real_i, real_c, chk_t, bnd_some, bnd_up, iff_t, iff_f, gd_t, gd_f, wd_b, wd_u, pick_t, pick_f, b_lss, b_leq, b_gtr, b_geq, b_eql, b_neq, b_seql, b_sneq, b_add, b_sub, u_not, nilC_ptr, fAddr_ptr, Nat.zero_add, extr0, extr1, extr2, lenStr, decide_true, decide_false, bt_tt, bt_tf, bt_ft, bt_ff, bt_bne, Bool.not_true, Bool.not_false, Int.reduceBEq, Int.reduceBNe]
  exact Ev.pure _

/-! ### tables -/
def ptB (x : Pt) : List Nat := nb x.T ++ tb x.P
def ptsB (l : List Pt) : List Nat := l.flatMap ptB
def ptsT (l : List Pt) : List Int := l.map (·.T)
def ptvol (l : List Pt) : Nat := (l.map fun x => 18 + x.P.size).sum
theorem ptvol_cons (x : Pt) (l : List Pt) : ptvol (x :: l) = 18 + x.P.size + ptvol l := by simp [ptvol]
theorem ptB_len (x : Pt) : (ptB x).length ≤ 18 + x.P.size := by
  have := nb_len x.T
  have := tb_len x.P
  simp only [ptB, List.length_append]; omega
theorem ptsB_len (l : List Pt) : (ptsB l).length ≤ ptvol l := by
  induction l with
  | nil => simp [ptsB]
  | cons s l ih => have := ptB_len s; rw [ptvol_cons]; simp only [ptsB, List.flatMap_cons, List.length_append] at ih ⊢; omega
theorem ptvol_len (l : List Pt) : l.length ≤ ptvol l := by
  induction l with
  | nil => simp
  | cons s l ih => rw [ptvol_cons]; simp; omega
def tE (g : Gr) : Int := if (ptsT g.pats).all okN then gE g else 2
def tkey (g : Gr) : List Nat := nb 4 ++ nb g.pats.length ++ ptsB g.pats ++ nbs (partN g)
theorem tE_eq (g : Gr) (e : Int) (he : e = if (ptsT g.pats).all okN then 0 else 2) : eN (if lvOk g then e else 2) (partN g) = tE g := by
  subst he
  unfold eN tE gE
  cases lvOk g <;> cases (partN g).all okN <;> cases (ptsT g.pats).all okN <;> rfl

theorem tables_loop {R : Nat → Prop} {g : Gr} {gb : Nat} {v0 v1 v2 v3 v4 p : Value} (hn : g.pats.length < 9223372036854775807) (hpr : g.prods.length < 1000000000000) : ∀ (k i : Nat), i + k = g.pats.length → ∀ (H : Heap) (l : List Nat) (e : Int), St R H p l (.int .i64 e) → Rb R H → GB R H g gb v0 v1 v2 v3 v4 → l.length + ptvol (g.pats.drop i) + 9 * gvol g ≤ 1000000000000 →
    ∃ w H', Ev (fun n m => f23_L0 real (AC n) n m (ptr gb 0) p v2 (.int .i64 (g.pats.length : Int)) (.int .i64 (i : Int)) H) (.tuple #[w, .int .i64 (endE (eN (if lvOk g then eN e (ptsT (g.pats.drop i)) else 2) (partN g)) (l ++ ptsB (g.pats.drop i) ++ nbs (partN g)))], H') ∧
      Acc R H' 1 w (endL (eN (if lvOk g then eN e (ptsT (g.pats.drop i)) else 2) (partN g)) (l ++ ptsB (g.pats.drop i) ++ nbs (partN g))).length (B (endL (eN (if lvOk g then eN e (ptsT (g.pats.drop i)) else 2) (partN g)) (l ++ ptsB (g.pats.drop i) ++ nbs (partN g)))) ∧ Keep R H H' := by
  have hmb : mostBytes = 140737488355328 := rfl
  intro k
  induction k with
  | zero =>
    intro i hi H l e hS hR hG hb
    have hd : g.pats.drop i = [] := List.drop_eq_nil_of_le (by omega)
    rw [hd]
    have e0 : l ++ ptsB [] = l := by simp [ptsB]
    have e1 : eN e (ptsT []) = e := by simp [ptsT, eN]
    rw [e0, e1]
    obtain ⟨H1, c1, c2, c3⟩ := part_ok hS hR (rep_gr_mk hG.s0 hG.s1 hG.s2 hG.s3 hG.s4) (by omega) hpr
    have hl := nbs_len (partN g)
    obtain ⟨w, d1, d2⟩ := ends_ok c2 (hR.mono c3.1) (by simp only [List.length_append]; simp only [gvol] at hb; omega)
    refine ⟨w, H1, ?_, d2, c3⟩
    refine Ev.step (fun n m => f23_L0.eq_2 _ _ _ _ _ _ _ _ _ _) ?_
    simp only [real_b, real_i, real_c, chk_t, bnd_some, bnd_up, iff_t, iff_f, gd_t, gd_f, wd_b, wd_u, pick_t, pick_f, b_lss, b_leq, b_gtr, b_geq, b_eql, b_neq, b_seql, b_sneq, b_add, b_sub, u_not, nilC_ptr, fAddr_ptr, Nat.zero_add, extr0, extr1, extr2, lenStr, decide_true, decide_false, bt_tt, bt_tf, bt_ft, bt_ff, bt_bne, Bool.not_true, Bool.not_false, Int.reduceBEq, Int.reduceBNe, idx_ge (show g.pats.length ≤ i by omega), hG.dA]
    refine Ev.callC c1 ?_
    refine Ev.callC d1 ?_
    simp only [real_b, real_i, real_c, chk_t, bnd_some, bnd_up, iff_t, iff_f, gd_t, gd_f, wd_b, wd_u, pick_t, pick_f, b_lss, b_leq, b_gtr, b_geq, b_eql, b_neq, b_seql, b_sneq, b_add, b_sub, u_not, nilC_ptr, fAddr_ptr, Nat.zero_add, extr0, extr1, extr2, lenStr, decide_true, decide_false, bt_tt, bt_tf, bt_ft, bt_ff, bt_bne, Bool.not_true, Bool.not_false, Int.reduceBEq, Int.reduceBNe]
    exact Ev.pure _
  | succ k ih =>
    intro i hi H l e hS hR hG hb
    have hlt : i < g.pats.length := by omega
    obtain ⟨x, hx, hd⟩ := drop_at hlt
    rw [hd, ptvol_cons] at hb
    obtain ⟨b, o, c, g1, g2, g3, g4, g5⟩ := hG.s2.rec hx
    obtain ⟨rfl, hr1⟩ := rep_pt g3
    let H1 := (H.push ⟨[.int .i64 0, .string ⟨#[]⟩], 1, true⟩).upd H.n (some ⟨[.int .i64 x.T, .string x.P], 1, true⟩)
    have k1 : Keep (all H) H H1 := push_upd (Rb.all H)
    have bx : Box (plus R H H1) H1 H.n [.int .i64 x.T, .string x.P] := push_upd_box
    have st : stV 2 (ptr H.n 0) (.agg [Value.int .i64 x.T, .string x.P].toArray) (H.push ⟨[.int .i64 0, .string ⟨#[]⟩], 1, true⟩) = some (undef, H1) := push_st rfl rfl rfl
    have hR1 : Rb (plus R H H1) H1 := hR.plus k1.1
    obtain ⟨H2, n1, n2, n3⟩ := numbers_lit (H := H1) [x.T] (by simp) (hS.plus k1) hR1 (by simp only [List.length_cons, List.length_nil]; omega)
    have hl := nbs_len [x.T]
    simp only [List.length_cons, List.length_nil] at hl
    have ex : ∃ e2, eN e [x.T] = e2 := ⟨_, rfl⟩
    obtain ⟨e2, he2⟩ := ex
    rw [he2] at n2
    obtain ⟨H3, t1, t2, t3⟩ := text_ok (s := x.P) n2 (hR1.mono n3.1) (by simp only [List.length_append]; omega)
    have hlt2 := tb_len x.P
    have kR : Keep R H H3 := (k1.of_all hR).trans ((n3.trans t3).mono plus_le)
    obtain ⟨w, H', q1, q2, q3⟩ := ih (i + 1) (by omega) H3 _ _ (t2.more fun b hb _ => plus_le b hb) (hR.mono kR.1) (hG.keep kR) (by simp only [List.length_append]; omega)
    have e1 : l ++ ptsB (g.pats.drop i) = l ++ nbs [x.T] ++ tb x.P ++ ptsB (g.pats.drop (i + 1)) := by rw [hd]; simp [ptsB, ptB, nbs]
    have e3 : eN e (ptsT (g.pats.drop i)) = eN e2 (ptsT (g.pats.drop (i + 1))) := by rw [hd, ← he2, ← eN_append]; simp [ptsT]
    rw [e1, e3]
    refine ⟨w, H', ?_, q2, kR.trans q3⟩
    refine Ev.step (fun n m => f23_L0.eq_2 _ _ _ _ _ _ _ _ _ _) ?_
    simp only [real_b, real_i, real_c, chk_t, bnd_some, bnd_up, iff_t, iff_f, gd_t, gd_f, wd_b, wd_u, pick_t, pick_f, b_lss, b_leq, b_gtr, b_geq, b_eql, b_neq, b_seql, b_sneq, b_add, b_sub, u_not, nilC_ptr, fAddr_ptr, Nat.zero_add, extr0, extr1, extr2, lenStr, decide_true, decide_false, bt_tt, bt_tf, bt_ft, bt_ff, bt_bne, Bool.not_true, Bool.not_false, Int.reduceBEq, Int.reduceBNe, idx_lt hlt, show iAddrS 2 v2 (.int .i64 i) = some (ptr b o) from g1, show ldA 2 (ptr b o) H = _ from g5, newV_box (show List.all [Value.int .i64 0, .string ⟨#[]⟩] oneC = true from rfl), st, bx.ld (k := 0) (v := .int .i64 x.T) rfl]
    rw [lit1]
    simp only [real_b, real_i, real_c, chk_t, bnd_some, bnd_up, iff_t, iff_f, gd_t, gd_f, wd_b, wd_u, pick_t, pick_f, b_lss, b_leq, b_gtr, b_geq, b_eql, b_neq, b_seql, b_sneq, b_add, b_sub, u_not, nilC_ptr, fAddr_ptr, Nat.zero_add, extr0, extr1, extr2, lenStr, decide_true, decide_false, bt_tt, bt_tf, bt_ft, bt_ff, bt_bne, Bool.not_true, Bool.not_false, Int.reduceBEq, Int.reduceBNe]
    refine Ev.callC n1 ?_
    simp only [real_b, real_i, real_c, chk_t, bnd_some, bnd_up, iff_t, iff_f, gd_t, gd_f, wd_b, wd_u, pick_t, pick_f, b_lss, b_leq, b_gtr, b_geq, b_eql, b_neq, b_seql, b_sneq, b_add, b_sub, u_not, nilC_ptr, fAddr_ptr, Nat.zero_add, extr0, extr1, extr2, lenStr, decide_true, decide_false, bt_tt, bt_tf, bt_ft, bt_ff, bt_bne, Bool.not_true, Bool.not_false, Int.reduceBEq, Int.reduceBNe, bx.blkP hR1 n3, Bool.true_and, (bx.keep n3).ld (k := 1) (v := .string x.P) rfl]
    refine Ev.callC t1 ?_
    simp only [real_b, real_i, real_c, chk_t, bnd_some, bnd_up, iff_t, iff_f, gd_t, gd_f, wd_b, wd_u, pick_t, pick_f, b_lss, b_leq, b_gtr, b_geq, b_eql, b_neq, b_seql, b_sneq, b_add, b_sub, u_not, nilC_ptr, fAddr_ptr, Nat.zero_add, extr0, extr1, extr2, lenStr, decide_true, decide_false, bt_tt, bt_tf, bt_ft, bt_ff, bt_bne, Bool.not_true, Bool.not_false, Int.reduceBEq, Int.reduceBNe, idx_up (show i < 9223372036854775807 by omega)]
    exact q1
theorem tables_ok {H : Heap} {g : Gr} {cs : List Value} (hg : Rp.rep (all H) H g cs) (hb : 9 * gvol g + ptvol g.pats ≤ 100000000000) (hpr : g.prods.length < 1000000000000) :
    ∃ w H', Cl 23 [.agg cs.toArray] H (.tuple #[w, .int .i64 (endE (tE g) (tkey g))]) H' ∧ Acc (all H) H' 1 w (endL (tE g) (tkey g)).length (B (endL (tE g) (tkey g))) ∧ Keep (all H) H H' := by
  have hmb : mostBytes = 140737488355328 := rfl
  have hpl := ptvol_len g.pats
  obtain ⟨v0, v1, v2, v3, v4, rfl, hnew, gb, k1⟩ := GB.enter (Rb.all H) hg
  generalize hH1 : H.push ⟨[v0, v1, v2, v3, v4], 1, true⟩ = H1 at hnew gb k1
  have gb1 : GB (all H1) H1 g H.n v0 v1 v2 v3 v4 := gb.mono fun b hb => by
    rcases hb with hb | hb
    · exact upA k1 b hb
    · exact hb.2
  obtain ⟨p, H2, b1, b2, b3⟩ := begin_ok H1 4
  rw [show eN 0 [4] = 0 by decide] at b2
  have h9 := nb_len 4
  have gb2 := gb1.keep b3
  obtain ⟨H3, n1, n2, n3⟩ := numbers_lit [(g.pats.length : Int)] (by simp) b2 ((Rb.all H1).mono b3.1) (by simp; omega)
  have hok : okN (g.pats.length : Int) = true := by simp [okN]; omega
  have he : eN 0 [(g.pats.length : Int)] = 0 := by simp [eN, hok]
  rw [he] at n2
  have hnb := nb_len (g.pats.length : Int)
  have e2 : nb 4 ++ nbs [(g.pats.length : Int)] = nb 4 ++ nb g.pats.length := by simp [nbs]
  rw [e2] at n2
  have k3 := b3.trans n3
  have gb3 := gb1.keep k3
  obtain ⟨w, H', q1, q2, q3⟩ := tables_loop (by omega) hpr g.pats.length 0 (by omega) H3 _ _ n2 ((Rb.all H1).mono k3.1) gb3 (by simp only [List.length_append, List.drop_zero]; omega)
  have ee : eN (if lvOk g then eN 0 (ptsT (g.pats.drop 0)) else 2) (partN g) = tE g := tE_eq g _ (by simp [eN])
  rw [ee, List.drop_zero] at q1 q2
  refine ⟨w, H', ?_, q2.low (upA k1), k1.trans ((k3.trans q3).mono (upA k1))⟩
  refine Ev.enter (fun n => f23_eq rfl n _ _) ?_
  simp only [f23, real_b, real_i, real_c, chk_t, bnd_some, bnd_up, iff_t, iff_f, gd_t, gd_f, wd_b, wd_u, pick_t, pick_f, b_lss, b_leq, b_gtr, b_geq, b_eql, b_neq, b_seql, b_sneq, b_add, b_sub, u_not, nilC_ptr, fAddr_ptr, Nat.zero_add, extr0, extr1, extr2, lenStr, decide_true, decide_false, bt_tt, bt_tf, bt_ft, bt_ff, bt_bne, Bool.not_true, Bool.not_false, Int.reduceBEq, Int.reduceBNe, hnew]
  refine Ev.callC b1 ?_
  simp only [real_b, real_i, real_c, chk_t, bnd_some, bnd_up, iff_t, iff_f, gd_t, gd_f, wd_b, wd_u, pick_t, pick_f, b_lss, b_leq, b_gtr, b_geq, b_eql, b_neq, b_seql, b_sneq, b_add, b_sub, u_not, nilC_ptr, fAddr_ptr, Nat.zero_add, extr0, extr1, extr2, lenStr, decide_true, decide_false, bt_tt, bt_tf, bt_ft, bt_ff, bt_bne, Bool.not_true, Bool.not_false, Int.reduceBEq, Int.reduceBNe, gb1.box.blk b3, Bool.true_and, gb2.d2, gb2.s2.lenS]
  rw [lit1]
  simp only [real_b, real_i, real_c, chk_t, bnd_some, bnd_up, iff_t, iff_f, gd_t, gd_f, wd_b, wd_u, pick_t, pick_f, b_lss, b_leq, b_gtr, b_geq, b_eql, b_neq, b_seql, b_sneq, b_add, b_sub, u_not, nilC_ptr, fAddr_ptr, Nat.zero_add, extr0, extr1, extr2, lenStr, decide_true, decide_false, bt_tt, bt_tf, bt_ft, bt_ff, bt_bne, Bool.not_true, Bool.not_false, Int.reduceBEq, Int.reduceBNe]
  refine Ev.callC n1 ?_
  simp only [real_b, real_i, real_c, chk_t, bnd_some, bnd_up, iff_t, iff_f, gd_t, gd_f, wd_b, wd_u, pick_t, pick_f, b_lss, b_leq, b_gtr, b_geq, b_eql, b_neq, b_seql, b_sneq, b_add, b_sub, u_not, nilC_ptr, fAddr_ptr, Nat.zero_add, extr0, extr1, extr2, lenStr, decide_true, decide_false, bt_tt, bt_tf, bt_ft, bt_ff, bt_bne, Bool.not_true, Bool.not_false, Int.reduceBEq, Int.reduceBNe, gb3.d2, gb3.s2.lenS]
  exact q1.loop

theorem rtables_loop {R : Nat → Prop} {g : Gr} {gb : Nat} {v0 v1 v2 v3 v4 p : Value} (hn : g.pats.length < 9223372036854775807) (hpr : g.prods.length < 1000000000000) : ∀ (k i : Nat), i + k = g.pats.length → ∀ (H : Heap) (l : List Nat) (bad : Bool), St R H p l (.bool bad) → Rb R H → GB R H g gb v0 v1 v2 v3 v4 → l.length + ptvol (g.pats.drop i) + 9 * gvol g ≤ 1000000000000 →
    ∃ w H' e, e = (if (bad || !(ptsT (g.pats.drop i)).all okN || !lvOk g || !(partN g).all okN) = true then 2 else 0) ∧ Ev (fun n m => f24_L0 real (AC n) n m (ptr gb 0) p (.int .i64 (i : Int)) H) (.tuple #[w, .int .i64 (endE e (l ++ ptsB (g.pats.drop i) ++ nbs (partN g)))], H') ∧
      Acc R H' 1 w (endL e (l ++ ptsB (g.pats.drop i) ++ nbs (partN g))).length (B (endL e (l ++ ptsB (g.pats.drop i) ++ nbs (partN g)))) ∧ Keep R H H' := by
  have hmb : mostBytes = 140737488355328 := rfl
  intro k
  induction k with
  | zero =>
    intro i hi H l bad hS hR hG hb
    have hd : g.pats.drop i = [] := List.drop_eq_nil_of_le (by omega)
    rw [hd]
    have e0 : l ++ ptsB [] = l := by simp [ptsB]
    have e1 : (bad || !(ptsT []).all okN) = bad := by simp [ptsT]
    rw [e0, e1]
    obtain ⟨H1, c1, c2, c3⟩ := rpart_ok hS hR (rep_gr_mk hG.s0 hG.s1 hG.s2 hG.s3 hG.s4) (by omega) hpr
    have hl := nbs_len (partN g)
    obtain ⟨w, d1, d2⟩ := rends_ok c2 (hR.mono c3.1) (by simp only [List.length_append]; simp only [gvol] at hb; omega)
    refine ⟨w, H1, _, rfl, ?_, d2, c3⟩
    refine Ev.step (fun n m => f24_L0.eq_2 _ _ _ _ _ _ _ _) ?_
    simp only [real_b, real_i, real_c, chk_t, bnd_some, bnd_up, iff_t, iff_f, gd_t, gd_f, wd_b, wd_u, pick_t, pick_f, b_lss, b_leq, b_gtr, b_geq, b_eql, b_neq, b_seql, b_sneq, b_add, b_sub, u_not, nilC_ptr, fAddr_ptr, Nat.zero_add, extr0, extr1, extr2, lenStr, decide_true, decide_false, bt_tt, bt_tf, bt_ft, bt_ff, bt_bne, Bool.not_true, Bool.not_false, Int.reduceBEq, Int.reduceBNe, hG.d2, hG.s2.lenS, idx_ge (show g.pats.length ≤ i by omega), hG.dA]
    refine Ev.callC c1 ?_
    refine Ev.callC d1 ?_
    simp only [real_b, real_i, real_c, chk_t, bnd_some, bnd_up, iff_t, iff_f, gd_t, gd_f, wd_b, wd_u, pick_t, pick_f, b_lss, b_leq, b_gtr, b_geq, b_eql, b_neq, b_seql, b_sneq, b_add, b_sub, u_not, nilC_ptr, fAddr_ptr, Nat.zero_add, extr0, extr1, extr2, lenStr, decide_true, decide_false, bt_tt, bt_tf, bt_ft, bt_ff, bt_bne, Bool.not_true, Bool.not_false, Int.reduceBEq, Int.reduceBNe]
    exact Ev.pure _
  | succ k ih =>
    intro i hi H l bad hS hR hG hb
    have hlt : i < g.pats.length := by omega
    obtain ⟨x, hx, hd⟩ := drop_at hlt
    rw [hd, ptvol_cons] at hb
    obtain ⟨b, o, c, g1, g2, g3, g4, g5⟩ := hG.s2.rec hx
    obtain ⟨rfl, hr1⟩ := rep_pt g3
    obtain ⟨H1, n1, n2, n3⟩ := number_ok (x := x.T) hS hR (by omega)
    have hl := nb_len x.T
    have hG1 := hG.keep n3
    obtain ⟨b', o', c', g1', g2', g3', g4', g5'⟩ := hG1.s2.rec hx
    obtain ⟨rfl, _⟩ := rep_pt g3'
    obtain ⟨H2, t1, t2, t3⟩ := rtext_ok (s := x.P) n2 (hR.mono n3.1) (by simp only [List.length_append]; omega)
    have hlt2 := tb_len x.P
    have kR := n3.trans t3
    obtain ⟨w, H', e, q0, q1, q2, q3⟩ := ih (i + 1) (by omega) H2 _ _ t2 (hR.mono kR.1) (hG.keep kR) (by simp only [List.length_append]; omega)
    have e1 : l ++ ptsB (g.pats.drop i) = l ++ nb x.T ++ tb x.P ++ ptsB (g.pats.drop (i + 1)) := by rw [hd]; simp [ptsB, ptB]
    have e3 : (bad || !(ptsT (g.pats.drop i)).all okN) = (bad || !okN x.T || !(ptsT (g.pats.drop (i + 1))).all okN) := by rw [hd]; exact (okN_all1 _ _ _).symm
    rw [e1, e3]
    refine ⟨w, H', e, q0, ?_, q2, kR.trans q3⟩
    refine Ev.step (fun n m => f24_L0.eq_2 _ _ _ _ _ _ _ _) ?_
    simp only [real_b, real_i, real_c, chk_t, bnd_some, bnd_up, iff_t, iff_f, gd_t, gd_f, wd_b, wd_u, pick_t, pick_f, b_lss, b_leq, b_gtr, b_geq, b_eql, b_neq, b_seql, b_sneq, b_add, b_sub, u_not, nilC_ptr, fAddr_ptr, Nat.zero_add, extr0, extr1, extr2, lenStr, decide_true, decide_false, bt_tt, bt_tf, bt_ft, bt_ff, bt_bne, Bool.not_true, Bool.not_false, Int.reduceBEq, Int.reduceBNe, hG.d2, hG.s2.lenS, idx_lt hlt, show iAddrS 2 v2 (.int .i64 i) = some (ptr b o) from g1, Nat.add_zero, show ldC (ptr b o) H = some (.int .i64 x.T, H) from g4 0 _ rfl]
    refine Ev.callC n1 ?_
    simp only [real_b, real_i, real_c, chk_t, bnd_some, bnd_up, iff_t, iff_f, gd_t, gd_f, wd_b, wd_u, pick_t, pick_f, b_lss, b_leq, b_gtr, b_geq, b_eql, b_neq, b_seql, b_sneq, b_add, b_sub, u_not, nilC_ptr, fAddr_ptr, Nat.zero_add, extr0, extr1, extr2, lenStr, decide_true, decide_false, bt_tt, bt_tf, bt_ft, bt_ff, bt_bne, Bool.not_true, Bool.not_false, Int.reduceBEq, Int.reduceBNe, hG1.d2, show iAddrS 2 v2 (.int .i64 i) = some (ptr b' o') from g1', g4' 1 _ rfl]
    refine Ev.callC t1 ?_
    simp only [real_b, real_i, real_c, chk_t, bnd_some, bnd_up, iff_t, iff_f, gd_t, gd_f, wd_b, wd_u, pick_t, pick_f, b_lss, b_leq, b_gtr, b_geq, b_eql, b_neq, b_seql, b_sneq, b_add, b_sub, u_not, nilC_ptr, fAddr_ptr, Nat.zero_add, extr0, extr1, extr2, lenStr, decide_true, decide_false, bt_tt, bt_tf, bt_ft, bt_ff, bt_bne, Bool.not_true, Bool.not_false, Int.reduceBEq, Int.reduceBNe, idx_up (show i < 9223372036854775807 by omega)]
    exact q1
theorem rtables_ok {H : Heap} {g : Gr} {cs : List Value} (hg : Rp.rep (all H) H g cs) (hb : 9 * gvol g + ptvol g.pats ≤ 100000000000) (hpr : g.prods.length < 1000000000000) :
    ∃ w H', Cl 24 [.agg cs.toArray] H (.tuple #[w, .int .i64 (endE (tE g) (tkey g))]) H' ∧ Acc (all H) H' 1 w (endL (tE g) (tkey g)).length (B (endL (tE g) (tkey g))) ∧ Keep (all H) H H' := by
  have hmb : mostBytes = 140737488355328 := rfl
  have hpl := ptvol_len g.pats
  obtain ⟨v0, v1, v2, v3, v4, rfl, hnew, gb, k1⟩ := GB.enter (Rb.all H) hg
  generalize hH1 : H.push ⟨[v0, v1, v2, v3, v4], 1, true⟩ = H1 at hnew gb k1
  have gb1 : GB (all H1) H1 g H.n v0 v1 v2 v3 v4 := gb.mono fun b hb => by
    rcases hb with hb | hb
    · exact upA k1 b hb
    · exact hb.2
  obtain ⟨H2, b0, b1, b2, b3⟩ := rbegin H1
  have h9 := nb_len 4
  obtain ⟨H3, n1, n2, n3⟩ := number_ok (x := 4) b2 ((Rb.all H1).mono b3.1) (by simp; omega)
  rw [List.nil_append, show (false || !okN 4) = false by decide] at n2
  have k3 := b3.trans n3
  have gb3 := gb1.keep k3
  obtain ⟨H4, m1, m2, m3⟩ := number_ok (x := (g.pats.length : Int)) n2 ((Rb.all H1).mono k3.1) (by omega)
  have hok : okN (g.pats.length : Int) = true := by simp [okN]; omega
  rw [hok, show (false || !true) = false from rfl] at m2
  have hnb := nb_len (g.pats.length : Int)
  have k4 := k3.trans m3
  have gb4 := gb1.keep k4
  obtain ⟨w, H', e, q0, q1, q2, q3⟩ := rtables_loop (by omega) hpr g.pats.length 0 (by omega) H4 _ _ m2 ((Rb.all H1).mono k4.1) gb4 (by simp only [List.length_append, List.drop_zero]; omega)
  have ee : e = tE g := by
    rw [q0]
    unfold tE gE
    rw [List.drop_zero]
    cases lvOk g <;> cases (partN g).all okN <;> cases (ptsT g.pats).all okN <;> rfl
  rw [ee, List.drop_zero] at q1 q2
  refine ⟨w, H', ?_, q2.low (upA k1), k1.trans ((k4.trans q3).mono (upA k1))⟩
  refine Ev.enter (fun n => f24_eq rfl n _ _) ?_
  simp only [f24, real_b, real_i, real_c, chk_t, bnd_some, bnd_up, iff_t, iff_f, gd_t, gd_f, wd_b, wd_u, pick_t, pick_f, b_lss, b_leq, b_gtr, b_geq, b_eql, b_neq, b_seql, b_sneq, b_add, b_sub, u_not, nilC_ptr, fAddr_ptr, Nat.zero_add, extr0, extr1, extr2, lenStr, decide_true, decide_false, bt_tt, bt_tf, bt_ft, bt_ff, bt_bne, Bool.not_true, Bool.not_false, Int.reduceBEq, Int.reduceBNe, hnew, b0, b1]
  refine Ev.callC n1 ?_
  simp only [real_b, real_i, real_c, chk_t, bnd_some, bnd_up, iff_t, iff_f, gd_t, gd_f, wd_b, wd_u, pick_t, pick_f, b_lss, b_leq, b_gtr, b_geq, b_eql, b_neq, b_seql, b_sneq, b_add, b_sub, u_not, nilC_ptr, fAddr_ptr, Nat.zero_add, extr0, extr1, extr2, lenStr, decide_true, decide_false, bt_tt, bt_tf, bt_ft, bt_ff, bt_bne, Bool.not_true, Bool.not_false, Int.reduceBEq, Int.reduceBNe, gb3.d2, gb3.s2.lenS]
  refine Ev.callC m1 ?_
  exact q1.loop
end Go.Eng
