/- KeysApart. -/
import Derived.Test.YtjnpiaigiljpjaaKU
set_option linter.unusedVariables false
set_option linter.unusedSimpArgs false
namespace Go.Eng
open Go Go.Proofs

/-! ### what two keys tell -/
theorem nbI_pref {x y : Int} (hx : okN x = true) (hy : okN y = true) {a b : List Nat} (h : nb x ++ a = nb y ++ b) : x = y ∧ a = b := by
  simp only [okN, Bool.and_eq_true, decide_eq_true_eq] at hx hy
  obtain ⟨m, rfl⟩ := Int.eq_ofNat_of_zero_le hx.1
  obtain ⟨n, rfl⟩ := Int.eq_ofNat_of_zero_le hy.1
  obtain ⟨h1, h2⟩ := nb_pref (by omega) (by omega) h
  exact ⟨by rw [h1], h2⟩
theorem nbs_pref : ∀ {xs ys : List Int}, xs.length = ys.length → xs.all okN = true → ys.all okN = true → ∀ {a b : List Nat}, nbs xs ++ a = nbs ys ++ b → xs = ys ∧ a = b
  | [], [], _, _, _, a, b, h => ⟨rfl, by simpa [nbs] using h⟩
  | [], y :: ys, hl, _, _, _, _, _ => by simp at hl
  | x :: xs, [], hl, _, _, _, _, _ => by simp at hl
  | x :: xs, y :: ys, hl, hx, hy, a, b, h => by
    rw [nbs_one, nbs_one, List.append_assoc, List.append_assoc] at h
    simp only [List.all_cons, Bool.and_eq_true] at hx hy
    obtain ⟨h1, h2⟩ := nbI_pref hx.1 hy.1 h
    obtain ⟨h3, h4⟩ := nbs_pref (by simpa using hl) hx.2 hy.2 h2
    exact ⟨by rw [h1, h3], h4⟩
theorem lvN_inj : ∀ {l m : List Lv}, lvN l = lvN m → l = m
  | [], [], _ => rfl
  | [], y :: m, h => by simp [lvN] at h
  | x :: l, [], h => by simp [lvN] at h
  | x :: l, y :: m, h => by
    rw [lvN_cons, lvN_cons] at h
    simp only [List.cons.injEq] at h
    rw [lvN_inj h.2.2]
    cases x; cases y
    simp only at h
    rw [h.1, h.2.1]
theorem pds_pref : ∀ {l m : List Pd}, l.length = m.length → (pdsN l).all okN = true → (pdsN m).all okN = true → ∀ {a b : List Nat}, nbs (pdsN l) ++ a = nbs (pdsN m) ++ b → l = m ∧ a = b
  | [], [], _, _, _, a, b, h => ⟨rfl, by simpa [pdsN, nbs] using h⟩
  | [], y :: m, hl, _, _, _, _, _ => by simp at hl
  | x :: l, [], hl, _, _, _, _, _ => by simp at hl
  | x :: l, y :: m, hl, hx, hy, a, b, h => by
    rw [pdsN_cons, pdsN_cons] at h
    rw [pdsN_cons, List.all_append, Bool.and_eq_true] at hx hy
    simp only [pdN, List.all_append, Bool.and_eq_true] at hx hy
    simp only [pdN, nbs_app, List.append_assoc] at h
    obtain ⟨h1, h2⟩ := nbs_pref (by simp) hx.1.1.1 hy.1.1.1 h
    simp only [List.cons.injEq, and_true] at h1
    obtain ⟨h3, h4⟩ := nbs_pref (by omega) hx.1.1.2 hy.1.1.2 h2
    obtain ⟨h5, h6⟩ := nbs_pref (by simp) hx.1.2 hy.1.2 h4
    simp only [List.cons.injEq, and_true] at h5
    obtain ⟨h7, h8⟩ := pds_pref (by simpa using hl) hx.2 hy.2 h6
    refine ⟨?_, h8⟩
    rw [h7, (pd_eq x y).2 ⟨⟨h1.1, h3⟩, ?_⟩]
    cases hv : x.V; cases hw : y.V
    rw [hv, hw] at h5
    simp only at h5
    rw [h5.1, h5.2]
theorem part_pref {a b : Gr} (ha : gE a = 0) (hb : gE b = 0) {r s : List Nat} (h : nbs (partN a) ++ r = nbs (partN b) ++ s) : a.terms.length = b.terms.length ∧ a.nons.length = b.nons.length ∧ a.levels = b.levels ∧ a.prods = b.prods ∧ r = s := by
  have un : ∀ g, gE g = 0 → g.levels.length = g.terms.length ∧ (partN g).all okN = true := fun g hg => by
    unfold gE at hg
    split at hg
    · rename_i h
      simp only [Bool.and_eq_true] at h
      exact ⟨by simpa [lvOk] using h.1, h.2⟩
    · cases hg
  obtain ⟨la, oa⟩ := un a ha
  obtain ⟨lb, ob⟩ := un b hb
  simp only [partN, List.all_append, Bool.and_eq_true] at oa ob
  simp only [partN, nbs_app, List.append_assoc] at h
  obtain ⟨h1, h2⟩ := nbs_pref (by simp) oa.1.1.1 ob.1.1.1 h
  simp only [List.cons.injEq, and_true] at h1
  obtain ⟨h3, h4⟩ := nbs_pref (by rw [lvN_len, lvN_len]; omega) oa.1.1.2 ob.1.1.2 h2
  obtain ⟨h5, h6⟩ := nbs_pref (by simp) oa.1.2 ob.1.2 h4
  simp only [List.cons.injEq, and_true] at h5
  obtain ⟨h7, h8⟩ := pds_pref (by omega) oa.2 ob.2 h6
  exact ⟨by omega, by omega, lvN_inj h3, h7, h8⟩
theorem map_const_eq {α β : Type} (c : β) : ∀ {l m : List α}, l.map (fun _ => c) = m.map (fun _ => c) ↔ l.length = m.length := by
  intro l m
  rw [List.map_const', List.map_const', List.replicate_inj]
  simp
theorem bare_iff (a b : Gr) (fl : Bool) : bareG a fl = bareG b fl ↔ (a.terms.length = b.terms.length ∧ a.nons.length = b.nons.length ∧ a.levels = b.levels ∧ a.prods = b.prods ∧ (fl = true → a.pats = b.pats)) := by
  rw [gr_eq]
  simp only [bareG, map_const_eq]
  cases fl
  · simp
  · simp only [if_true, true_implies]
    constructor
    · rintro ⟨h1, h2, h3, h4, h5⟩; exact ⟨h1, h2, h3, h5, h4⟩
    · rintro ⟨h1, h2, h3, h4, h5⟩; exact ⟨h1, h2, h3, h5, h4⟩
theorem pkey_iff {a b : Gr} (ha : gE a = 0) (hb : gE b = 0) : pkey a = pkey b ↔ bareG a false = bareG b false := by
  rw [bare_iff]
  constructor
  · intro h
    simp only [pkey] at h
    have h' := List.append_cancel_left h
    obtain ⟨h1, h2, h3, h4, _⟩ := part_pref (r := []) (s := []) ha hb (by simpa using h')
    exact ⟨h1, h2, h3, h4, fun h => by cases h⟩
  · rintro ⟨h1, h2, h3, h4, _⟩
    simp only [pkey, partN, h1, h2, h3, h4]
theorem pts_pref : ∀ {l m : List Pt}, l.length = m.length → (ptsT l).all okN = true → (ptsT m).all okN = true → ptvol l ≤ 10000000000 → ptvol m ≤ 10000000000 → ∀ {a b : List Nat}, ptsB l ++ a = ptsB m ++ b → l = m ∧ a = b
  | [], [], _, _, _, _, _, a, b, h => ⟨rfl, by simpa [ptsB] using h⟩
  | [], y :: m, hl, _, _, _, _, _, _, _ => by simp at hl
  | x :: l, [], hl, _, _, _, _, _, _, _ => by simp at hl
  | x :: l, y :: m, hl, hx, hy, vx, vy, a, b, h => by
    rw [ptvol_cons] at vx vy
    have e : ∀ (x : Pt) l c, ptsB (x :: l) ++ c = nb x.T ++ (tb x.P ++ (ptsB l ++ c)) := by intro x l c; simp [ptsB, ptB]
    rw [e, e] at h
    simp only [ptsT, List.map_cons, List.all_cons, Bool.and_eq_true] at hx hy
    obtain ⟨h1, h2⟩ := nbI_pref hx.1 hy.1 h
    obtain ⟨h3, h4⟩ := tb_pref (by omega) (by omega) h2
    obtain ⟨h5, h6⟩ := pts_pref (by simpa using hl) hx.2 hy.2 (by omega) (by omega) h4
    refine ⟨?_, h6⟩
    rw [h5]
    cases x; cases y
    simp only at h1 h3
    rw [h1, h3]
theorem tE_zero {g : Gr} (h : tE g = 0) : gE g = 0 ∧ (ptsT g.pats).all okN = true := by
  unfold tE at h
  split at h
  · rename_i h'; exact ⟨h, h'⟩
  · cases h
theorem tkey_iff {a b : Gr} (ha : tE a = 0) (hb : tE b = 0) (va : ptvol a.pats ≤ 10000000000) (vb : ptvol b.pats ≤ 10000000000) : tkey a = tkey b ↔ bareG a true = bareG b true := by
  obtain ⟨ga, oa⟩ := tE_zero ha
  obtain ⟨gb, ob⟩ := tE_zero hb
  have la := ptvol_len a.pats
  have lb := ptvol_len b.pats
  rw [bare_iff]
  constructor
  · intro h
    simp only [tkey, List.append_assoc] at h
    have h' := List.append_cancel_left h
    obtain ⟨h1, h2⟩ := nb_pref (by omega) (by omega) h'
    obtain ⟨h3, h4⟩ := pts_pref h1 oa ob va vb h2
    obtain ⟨h5, h6, h7, h8, _⟩ := part_pref (r := []) (s := []) ga gb (by simpa using h4)
    exact ⟨h5, h6, h7, h8, fun _ => h3⟩
  · rintro ⟨h1, h2, h3, h4, h5⟩
    simp only [tkey, partN, h1, h2, h3, h4, h5 rfl]
theorem endE_zero {e : Int} {l : List Nat} (h : endE e l = 0) : e = 0 ∧ endL e l = l := by
  unfold endE at h
  unfold endL
  split at h
  · rename_i he
    subst he
    split at h
    · cases h
    · rename_i h2; exact ⟨rfl, by simp [h2]⟩
  · rename_i he; exact absurd h he

noncomputable def f7_T (S : Seam (Value × Heap)) (C : CallF) (n : Nat) (p q e1 e2 y z : Value) (H : Heap) : Option (Value × Heap) :=
 S.b (up (binB Try.prog .eql 25 e1 (.int .i64 0)) H) fun x51_65 H66 =>
      S.b (gd (wd x51_65 true) (some (e2, H66)) H66) fun x53_67 H68 =>
      S.b (gd (wd x51_65 true) (up (binB Try.prog .eql 25 x53_67 (.int .i64 0)) H68) H68) fun x54_69 H70 =>
      S.b (pickV x51_65 x54_69 (.bool false) H70) fun x55_71 H72 =>
      S.b (gd (wd x55_71 true) (some (y, H72)) H72) fun x57_73 H74 =>
      S.b (gd (wd x55_71 true) (some (z, H74)) H74) fun x58_75 H76 =>
      S.b (gd (wd x55_71 true) (C 15 [x57_73, x58_75] H76) H76) fun x59_77 H78 =>
      S.c (!(wd x55_71 true) || true) (S.c (!(wd x55_71 true) || ((!(wd x55_71 true) || sameBlk H76 H78 (blkOf p)) && true)) (S.b (gd (wd x55_71 true) (ldA 5 p H78) H78) fun x60_79 H80 =>
       S.b (gd (wd x55_71 true) (C 26 [x60_79, (.bool true)] H80) H80) fun x61_81 H82 =>
       S.c (!(wd x55_71 true) || true) (S.c (!(wd x55_71 true) || ((!(wd x55_71 true) || sameBlk H80 H82 (blkOf q)) && ((!(wd x55_71 true) || sameBlk H76 H78 (blkOf q)) && true))) (S.b (gd (wd x55_71 true) (ldA 5 q H82) H82) fun x62_83 H84 =>
        S.b (gd (wd x55_71 true) (C 26 [x62_83, (.bool true)] H84) H84) fun x63_85 H86 =>
        S.c (!(wd x55_71 true) || true) (S.b (gd (wd x55_71 true) (C 25 [x61_81, x63_85] H86) H86) fun x64_87 H88 =>
         S.c (!(wd x55_71 true) || true) (S.b (gd (wd x55_71 true) (up (binB Try.prog .neq 4 x59_77 x64_87) H88) H88) fun x65_89 H90 =>
          S.b (pickV x55_71 x65_89 (.bool false) H90) fun x66_91 H92 =>
          S.i x66_91
          (some ((.bool false), H92))
          (S.b (C 18 [] H92) fun x67_93 H94 =>
           some (x67_93, H94))))))))

theorem b_bneq {P : Program} {t : TypeId} {a b : Bool} (h : P.underlying t = some .bool) : binB P .neq t (.bool a) (.bool b) = some (.bool !(a == b)) := by
  simp [binB, eqV, h]
theorem fits_bare {g : Gr} (fg : Small g) (fl : Bool) : Small (bareG g fl) := by
  refine ⟨by simpa [bareG] using fg.t, fg.l, by simpa [bareG] using fg.n, ?_, fg.d, ?_, fg.r⟩
  · cases fl
    · simp [bareG]
    · simpa [bareG] using fg.p
  · cases fl
    · intro x hx; simp [bareG] at hx
    · simpa [bareG] using fg.s
theorem apart_tail {H : Heap} {a b : Gr} {p q : Nat} {v0 v1 v2 v3 v4 u0 u1 u2 u3 u4 y z : Value} {e1 e2 : Int} (ga : GB (all H) H a p v0 v1 v2 v3 v4) (gb : GB (all H) H b q u0 u1 u2 u3 u4) (fa : Fits a) (fb : Fits b)
    (h1 : e1 = endE (tE a) (tkey a)) (h2 : e2 = endE (tE b) (tkey b)) (hy : Sl (all H) H 1 y (endL (tE a) (tkey a)).length (B (endL (tE a) (tkey a)))) (hz : Sl (all H) H 1 z (endL (tE b) (tkey b)).length (B (endL (tE b) (tkey b)))) :
    ∃ H', Ev (fun n _ => f7_T real (AC n) n (ptr p 0) (ptr q 0) (.int .i64 e1) (.int .i64 e2) y z H) (.bool true, H') ∧ Keep (all H) H H' := by
  by_cases k1 : e1 = 0
  · by_cases k2 : e2 = 0
    · subst k1; subst k2
      obtain ⟨ta, la⟩ := endE_zero h1.symm
      obtain ⟨tb, lb⟩ := endE_zero h2.symm
      rw [la] at hy
      rw [lb] at hz
      have ll : (tkey a).length ≤ 65536 := by rw [← la]; exact endL_len _ _
      obtain ⟨c1, H1, p1, p2, p3⟩ := bare_ok (fl := true) ga.rep fa.s
      have gb1 := gb.up p3
      obtain ⟨c2, H2, q1, q2, q3⟩ := bare_ok (fl := true) gb1.rep fb.s
      obtain ⟨H3, r1, r2⟩ := gsame_ok (Rp.mono (Rp.keep p2 q3) (upA q3)) q2 (fits_bare fa.s true) (fits_bare fb.s true)
      refine ⟨H3, ?_, p3.tr (q3.tr r2)⟩
      have hb := dec_iff (tkey_iff ta tb fa.p fb.p)
      simp only [f7_T, real_b, real_i, real_c, chk_t, bnd_some, bnd_up, iff_t, iff_f, gd_t, gd_f, wd_b, wd_u, pick_t, pick_f, b_lss, b_leq, b_gtr, b_geq, b_eql, b_neq, b_seql, b_sneq, b_add, b_sub, u_not, nilC_ptr, fAddr_ptr, Nat.zero_add, extr0, extr1, extr2, lenStr, decide_true, decide_false, bt_tt, bt_tf, bt_ft, bt_ff, bt_bne, Bool.not_true, Bool.not_false, Int.reduceBEq, Int.reduceBNe]
      refine Ev.callC (eq_ok hy hz (by omega)) ?_
      simp only [real_b, real_i, real_c, chk_t, bnd_some, bnd_up, iff_t, iff_f, gd_t, gd_f, wd_b, wd_u, pick_t, pick_f, b_lss, b_leq, b_gtr, b_geq, b_eql, b_neq, b_seql, b_sneq, b_add, b_sub, u_not, nilC_ptr, fAddr_ptr, Nat.zero_add, extr0, extr1, extr2, lenStr, decide_true, decide_false, bt_tt, bt_tf, bt_ft, bt_ff, bt_bne, Bool.not_true, Bool.not_false, Int.reduceBEq, Int.reduceBNe, Bool.false_or, Bool.and_true, ga.box.blk (Keep.refl _ H), ga.dA]
      refine Ev.callC p1 ?_
      simp only [real_b, real_i, real_c, chk_t, bnd_some, bnd_up, iff_t, iff_f, gd_t, gd_f, wd_b, wd_u, pick_t, pick_f, b_lss, b_leq, b_gtr, b_geq, b_eql, b_neq, b_seql, b_sneq, b_add, b_sub, u_not, nilC_ptr, fAddr_ptr, Nat.zero_add, extr0, extr1, extr2, lenStr, decide_true, decide_false, bt_tt, bt_tf, bt_ft, bt_ff, bt_bne, Bool.not_true, Bool.not_false, Int.reduceBEq, Int.reduceBNe, Bool.false_or, Bool.and_true, gb.box.blk p3, gb.box.blk (Keep.refl _ H), gb1.dA]
      refine Ev.callC q1 ?_
      try simp only [real_b, real_i, real_c, chk_t, bnd_some, bnd_up, iff_t, iff_f, gd_t, gd_f, wd_b, wd_u, pick_t, pick_f, b_lss, b_leq, b_gtr, b_geq, b_eql, b_neq, b_seql, b_sneq, b_add, b_sub, u_not, nilC_ptr, fAddr_ptr, Nat.zero_add, extr0, extr1, extr2, lenStr, decide_true, decide_false, bt_tt, bt_tf, bt_ft, bt_ff, bt_bne, Bool.not_true, Bool.not_false, Int.reduceBEq, Int.reduceBNe, Bool.false_or, Bool.and_true]
      refine Ev.callC r1 ?_
      simp only [real_b, real_i, real_c, chk_t, bnd_some, bnd_up, iff_t, iff_f, gd_t, gd_f, wd_b, wd_u, pick_t, pick_f, b_lss, b_leq, b_gtr, b_geq, b_eql, b_neq, b_seql, b_sneq, b_add, b_sub, u_not, nilC_ptr, fAddr_ptr, Nat.zero_add, extr0, extr1, extr2, lenStr, decide_true, decide_false, bt_tt, bt_tf, bt_ft, bt_ff, bt_bne, Bool.not_true, Bool.not_false, Int.reduceBEq, Int.reduceBNe, Bool.false_or, Bool.and_true, b_bneq Try.underlying4, hb]
      refine Ev.callC (awake_ok _) ?_
      exact Ev.pure _
    · subst k1
      refine ⟨H, ?_, Keep.refl _ _⟩
      simp only [f7_T, real_b, real_i, real_c, chk_t, bnd_some, bnd_up, iff_t, iff_f, gd_t, gd_f, wd_b, wd_u, pick_t, pick_f, b_lss, b_leq, b_gtr, b_geq, b_eql, b_neq, b_seql, b_sneq, b_add, b_sub, u_not, nilC_ptr, fAddr_ptr, Nat.zero_add, extr0, extr1, extr2, lenStr, decide_true, decide_false, bt_tt, bt_tf, bt_ft, bt_ff, bt_bne, Bool.not_true, Bool.not_false, Int.reduceBEq, Int.reduceBNe, show (e2 == 0) = false by simpa using k2, Bool.true_or]
      refine Ev.callC (awake_ok _) ?_
      exact Ev.pure _
  · refine ⟨H, ?_, Keep.refl _ _⟩
    simp only [f7_T, real_b, real_i, real_c, chk_t, bnd_some, bnd_up, iff_t, iff_f, gd_t, gd_f, wd_b, wd_u, pick_t, pick_f, b_lss, b_leq, b_gtr, b_geq, b_eql, b_neq, b_seql, b_sneq, b_add, b_sub, u_not, nilC_ptr, fAddr_ptr, Nat.zero_add, extr0, extr1, extr2, lenStr, decide_true, decide_false, bt_tt, bt_tf, bt_ft, bt_ff, bt_bne, Bool.not_true, Bool.not_false, Int.reduceBEq, Int.reduceBNe, show (e1 == 0) = false by simpa using k1, Bool.true_or]
    refine Ev.callC (awake_ok _) ?_
    exact Ev.pure _

theorem apart_law {H : Heap} {a b : Gr} {ca cb : List Value} (ha : Rp.rep (all H) H a ca) (hb : Rp.rep (all H) H b cb) (fa : Fits a) (fb : Fits b) : ∃ H', Cl 7 [.agg ca.toArray, .agg cb.toArray] H (.bool true) H' ∧ Keep (all H) H H' := by
  have va := fa.v
  have pa := fa.p
  have vb := fb.v
  have pb := fb.p
  obtain ⟨v0, v1, v2, v3, v4, rfl, hnew, ga, k1⟩ := GB.enter (Rb.all H) ha
  generalize hH1 : H.push ⟨[v0, v1, v2, v3, v4], 1, true⟩ = H1 at hnew ga k1
  have ga1 := ga.allOf k1
  obtain ⟨u0, u1, u2, u3, u4, rfl, hnew2, gb, k2⟩ := GB.enter (Rb.all H1) (Rp.mono (Rp.keep hb k1) (upA k1))
  generalize hH2 : H1.push ⟨[u0, u1, u2, u3, u4], 1, true⟩ = H2 at hnew2 gb k2
  have gb2 := gb.allOf k2
  have ga2 := ga1.up k2
  obtain ⟨x3, H3, p1, p2, p3⟩ := parser_ok ga2.rep (by omega) fa.s.d
  have ga3 := ga2.up p3
  have gb3 := gb2.up p3
  obtain ⟨x4, H4, q1, q2, q3⟩ := parser_ok gb3.rep (by omega) fb.s.d
  have ga4 := ga3.up q3
  have gb4 := gb3.up q3
  obtain ⟨x5, H5, r1, r2, r3⟩ := tables_ok ga4.rep (by omega) fa.s.d
  have ga5 := ga4.up r3
  have gb5 := gb4.up r3
  obtain ⟨x6, H6, s1, s2, s3⟩ := tables_ok gb5.rep (by omega) fb.s.d
  have ga6 := ga5.up s3
  have gb6 := gb5.up s3
  have K6 : Keep (all H) H H6 := k1.tr (k2.tr (p3.tr (q3.tr (r3.tr s3))))
  have y3 := ((p2.sl.up q3).up r3).up s3
  have y4 := (q2.sl.up r3).up s3
  have y5 := r2.sl.up s3
  have y6 := s2.sl
  by_cases j1 : endE (gE a) (pkey a) = 0
  · by_cases j2 : endE (gE b) (pkey b) = 0
    · obtain ⟨ta, la⟩ := endE_zero j1
      obtain ⟨tb, lb⟩ := endE_zero j2
      rw [la] at y3
      rw [lb] at y4
      have ll : (pkey a).length ≤ 65536 := by rw [← la]; exact endL_len _ _
      obtain ⟨c1, H7, t1, t2, t3⟩ := bare_ok (fl := false) ga6.rep fa.s
      have gb7 := gb6.up t3
      obtain ⟨c2, H8, w1, w2, w3⟩ := bare_ok (fl := false) gb7.rep fb.s
      obtain ⟨H9, z1, z2⟩ := gsame_ok (Rp.mono (Rp.keep t2 w3) (upA w3)) w2 (fits_bare fa.s false) (fits_bare fb.s false)
      have kk := (t3.tr w3).tr z2
      obtain ⟨H', e, ek⟩ := apart_tail (ga6.up kk) (gb6.up kk) fa fb rfl rfl (y5.up kk) (y6.up kk)
      refine ⟨H', ?_, K6.tr (kk.tr ek)⟩
      have hb := dec_iff (pkey_iff ta tb)
      refine Ev.enter (fun n => f7_eq rfl n _ _ _) ?_
      simp only [f7, real_b, real_i, real_c, chk_t, bnd_some, bnd_up, iff_t, iff_f, gd_t, gd_f, wd_b, wd_u, pick_t, pick_f, b_lss, b_leq, b_gtr, b_geq, b_eql, b_neq, b_seql, b_sneq, b_add, b_sub, u_not, nilC_ptr, fAddr_ptr, Nat.zero_add, extr0, extr1, extr2, lenStr, decide_true, decide_false, bt_tt, bt_tf, bt_ft, bt_ff, bt_bne, Bool.not_true, Bool.not_false, Int.reduceBEq, Int.reduceBNe, hnew, hnew2, ga2.dA]
      refine Ev.callC p1 ?_
      simp only [real_b, real_i, real_c, chk_t, bnd_some, bnd_up, iff_t, iff_f, gd_t, gd_f, wd_b, wd_u, pick_t, pick_f, b_lss, b_leq, b_gtr, b_geq, b_eql, b_neq, b_seql, b_sneq, b_add, b_sub, u_not, nilC_ptr, fAddr_ptr, Nat.zero_add, extr0, extr1, extr2, lenStr, decide_true, decide_false, bt_tt, bt_tf, bt_ft, bt_ff, bt_bne, Bool.not_true, Bool.not_false, Int.reduceBEq, Int.reduceBNe, gb3.dA]
      refine Ev.callC q1 ?_
      simp only [real_b, real_i, real_c, chk_t, bnd_some, bnd_up, iff_t, iff_f, gd_t, gd_f, wd_b, wd_u, pick_t, pick_f, b_lss, b_leq, b_gtr, b_geq, b_eql, b_neq, b_seql, b_sneq, b_add, b_sub, u_not, nilC_ptr, fAddr_ptr, Nat.zero_add, extr0, extr1, extr2, lenStr, decide_true, decide_false, bt_tt, bt_tf, bt_ft, bt_ff, bt_bne, Bool.not_true, Bool.not_false, Int.reduceBEq, Int.reduceBNe, ga4.dA]
      refine Ev.callC r1 ?_
      simp only [real_b, real_i, real_c, chk_t, bnd_some, bnd_up, iff_t, iff_f, gd_t, gd_f, wd_b, wd_u, pick_t, pick_f, b_lss, b_leq, b_gtr, b_geq, b_eql, b_neq, b_seql, b_sneq, b_add, b_sub, u_not, nilC_ptr, fAddr_ptr, Nat.zero_add, extr0, extr1, extr2, lenStr, decide_true, decide_false, bt_tt, bt_tf, bt_ft, bt_ff, bt_bne, Bool.not_true, Bool.not_false, Int.reduceBEq, Int.reduceBNe, gb5.dA]
      refine Ev.callC s1 ?_
      simp only [real_b, real_i, real_c, chk_t, bnd_some, bnd_up, iff_t, iff_f, gd_t, gd_f, wd_b, wd_u, pick_t, pick_f, b_lss, b_leq, b_gtr, b_geq, b_eql, b_neq, b_seql, b_sneq, b_add, b_sub, u_not, nilC_ptr, fAddr_ptr, Nat.zero_add, extr0, extr1, extr2, lenStr, decide_true, decide_false, bt_tt, bt_tf, bt_ft, bt_ff, bt_bne, Bool.not_true, Bool.not_false, Int.reduceBEq, Int.reduceBNe, j1, j2]
      refine Ev.callC (eq_ok y3 y4 (by omega)) ?_
      simp only [real_b, real_i, real_c, chk_t, bnd_some, bnd_up, iff_t, iff_f, gd_t, gd_f, wd_b, wd_u, pick_t, pick_f, b_lss, b_leq, b_gtr, b_geq, b_eql, b_neq, b_seql, b_sneq, b_add, b_sub, u_not, nilC_ptr, fAddr_ptr, Nat.zero_add, extr0, extr1, extr2, lenStr, decide_true, decide_false, bt_tt, bt_tf, bt_ft, bt_ff, bt_bne, Bool.not_true, Bool.not_false, Int.reduceBEq, Int.reduceBNe, Bool.false_or, Bool.and_true, ga6.box.blk (Keep.refl _ H6), ga6.dA]
      refine Ev.callC t1 ?_
      simp only [real_b, real_i, real_c, chk_t, bnd_some, bnd_up, iff_t, iff_f, gd_t, gd_f, wd_b, wd_u, pick_t, pick_f, b_lss, b_leq, b_gtr, b_geq, b_eql, b_neq, b_seql, b_sneq, b_add, b_sub, u_not, nilC_ptr, fAddr_ptr, Nat.zero_add, extr0, extr1, extr2, lenStr, decide_true, decide_false, bt_tt, bt_tf, bt_ft, bt_ff, bt_bne, Bool.not_true, Bool.not_false, Int.reduceBEq, Int.reduceBNe, Bool.false_or, Bool.and_true, gb6.box.blk t3, gb6.box.blk (Keep.refl _ H6), gb7.dA]
      refine Ev.callC w1 ?_
      try simp only [real_b, real_i, real_c, chk_t, bnd_some, bnd_up, iff_t, iff_f, gd_t, gd_f, wd_b, wd_u, pick_t, pick_f, b_lss, b_leq, b_gtr, b_geq, b_eql, b_neq, b_seql, b_sneq, b_add, b_sub, u_not, nilC_ptr, fAddr_ptr, Nat.zero_add, extr0, extr1, extr2, lenStr, decide_true, decide_false, bt_tt, bt_tf, bt_ft, bt_ff, bt_bne, Bool.not_true, Bool.not_false, Int.reduceBEq, Int.reduceBNe, Bool.false_or, Bool.and_true]
      refine Ev.callC z1 ?_
      have e' := e
      simp only [f7_T, real_b, real_i, real_c, chk_t, bnd_some, bnd_up, iff_t, iff_f, gd_t, gd_f, wd_b, wd_u, pick_t, pick_f, b_lss, b_leq, b_gtr, b_geq, b_eql, b_neq, b_seql, b_sneq, b_add, b_sub, u_not, nilC_ptr, fAddr_ptr, Nat.zero_add, extr0, extr1, extr2, lenStr, decide_true, decide_false, bt_tt, bt_tf, bt_ft, bt_ff, bt_bne, Bool.not_true, Bool.not_false, Int.reduceBEq, Int.reduceBNe, Bool.false_or, Bool.and_true] at e'
      simp only [real_b, real_i, real_c, chk_t, bnd_some, bnd_up, iff_t, iff_f, gd_t, gd_f, wd_b, wd_u, pick_t, pick_f, b_lss, b_leq, b_gtr, b_geq, b_eql, b_neq, b_seql, b_sneq, b_add, b_sub, u_not, nilC_ptr, fAddr_ptr, Nat.zero_add, extr0, extr1, extr2, lenStr, decide_true, decide_false, bt_tt, bt_tf, bt_ft, bt_ff, bt_bne, Bool.not_true, Bool.not_false, Int.reduceBEq, Int.reduceBNe, Bool.false_or, Bool.and_true, b_bneq Try.underlying4, hb]
      exact e'
    · obtain ⟨H', e, ek⟩ := apart_tail ga6 gb6 fa fb rfl rfl y5 y6
      refine ⟨H', ?_, K6.tr ek⟩
      refine Ev.enter (fun n => f7_eq rfl n _ _ _) ?_
      simp only [f7, real_b, real_i, real_c, chk_t, bnd_some, bnd_up, iff_t, iff_f, gd_t, gd_f, wd_b, wd_u, pick_t, pick_f, b_lss, b_leq, b_gtr, b_geq, b_eql, b_neq, b_seql, b_sneq, b_add, b_sub, u_not, nilC_ptr, fAddr_ptr, Nat.zero_add, extr0, extr1, extr2, lenStr, decide_true, decide_false, bt_tt, bt_tf, bt_ft, bt_ff, bt_bne, Bool.not_true, Bool.not_false, Int.reduceBEq, Int.reduceBNe, hnew, hnew2, ga2.dA]
      refine Ev.callC p1 ?_
      simp only [real_b, real_i, real_c, chk_t, bnd_some, bnd_up, iff_t, iff_f, gd_t, gd_f, wd_b, wd_u, pick_t, pick_f, b_lss, b_leq, b_gtr, b_geq, b_eql, b_neq, b_seql, b_sneq, b_add, b_sub, u_not, nilC_ptr, fAddr_ptr, Nat.zero_add, extr0, extr1, extr2, lenStr, decide_true, decide_false, bt_tt, bt_tf, bt_ft, bt_ff, bt_bne, Bool.not_true, Bool.not_false, Int.reduceBEq, Int.reduceBNe, gb3.dA]
      refine Ev.callC q1 ?_
      simp only [real_b, real_i, real_c, chk_t, bnd_some, bnd_up, iff_t, iff_f, gd_t, gd_f, wd_b, wd_u, pick_t, pick_f, b_lss, b_leq, b_gtr, b_geq, b_eql, b_neq, b_seql, b_sneq, b_add, b_sub, u_not, nilC_ptr, fAddr_ptr, Nat.zero_add, extr0, extr1, extr2, lenStr, decide_true, decide_false, bt_tt, bt_tf, bt_ft, bt_ff, bt_bne, Bool.not_true, Bool.not_false, Int.reduceBEq, Int.reduceBNe, ga4.dA]
      refine Ev.callC r1 ?_
      simp only [real_b, real_i, real_c, chk_t, bnd_some, bnd_up, iff_t, iff_f, gd_t, gd_f, wd_b, wd_u, pick_t, pick_f, b_lss, b_leq, b_gtr, b_geq, b_eql, b_neq, b_seql, b_sneq, b_add, b_sub, u_not, nilC_ptr, fAddr_ptr, Nat.zero_add, extr0, extr1, extr2, lenStr, decide_true, decide_false, bt_tt, bt_tf, bt_ft, bt_ff, bt_bne, Bool.not_true, Bool.not_false, Int.reduceBEq, Int.reduceBNe, gb5.dA]
      refine Ev.callC s1 ?_
      have e' := e
      simp only [f7_T, real_b, real_i, real_c, chk_t, bnd_some, bnd_up, iff_t, iff_f, gd_t, gd_f, wd_b, wd_u, pick_t, pick_f, b_lss, b_leq, b_gtr, b_geq, b_eql, b_neq, b_seql, b_sneq, b_add, b_sub, u_not, nilC_ptr, fAddr_ptr, Nat.zero_add, extr0, extr1, extr2, lenStr, decide_true, decide_false, bt_tt, bt_tf, bt_ft, bt_ff, bt_bne, Bool.not_true, Bool.not_false, Int.reduceBEq, Int.reduceBNe] at e'
      simp only [real_b, real_i, real_c, chk_t, bnd_some, bnd_up, iff_t, iff_f, gd_t, gd_f, wd_b, wd_u, pick_t, pick_f, b_lss, b_leq, b_gtr, b_geq, b_eql, b_neq, b_seql, b_sneq, b_add, b_sub, u_not, nilC_ptr, fAddr_ptr, Nat.zero_add, extr0, extr1, extr2, lenStr, decide_true, decide_false, bt_tt, bt_tf, bt_ft, bt_ff, bt_bne, Bool.not_true, Bool.not_false, Int.reduceBEq, Int.reduceBNe, j1, show (endE (gE b) (pkey b) == 0) = false by simpa using j2, Bool.true_or]
      exact e'
  · obtain ⟨H', e, ek⟩ := apart_tail ga6 gb6 fa fb rfl rfl y5 y6
    refine ⟨H', ?_, K6.tr ek⟩
    refine Ev.enter (fun n => f7_eq rfl n _ _ _) ?_
    simp only [f7, real_b, real_i, real_c, chk_t, bnd_some, bnd_up, iff_t, iff_f, gd_t, gd_f, wd_b, wd_u, pick_t, pick_f, b_lss, b_leq, b_gtr, b_geq, b_eql, b_neq, b_seql, b_sneq, b_add, b_sub, u_not, nilC_ptr, fAddr_ptr, Nat.zero_add, extr0, extr1, extr2, lenStr, decide_true, decide_false, bt_tt, bt_tf, bt_ft, bt_ff, bt_bne, Bool.not_true, Bool.not_false, Int.reduceBEq, Int.reduceBNe, hnew, hnew2, ga2.dA]
    refine Ev.callC p1 ?_
    simp only [real_b, real_i, real_c, chk_t, bnd_some, bnd_up, iff_t, iff_f, gd_t, gd_f, wd_b, wd_u, pick_t, pick_f, b_lss, b_leq, b_gtr, b_geq, b_eql, b_neq, b_seql, b_sneq, b_add, b_sub, u_not, nilC_ptr, fAddr_ptr, Nat.zero_add, extr0, extr1, extr2, lenStr, decide_true, decide_false, bt_tt, bt_tf, bt_ft, bt_ff, bt_bne, Bool.not_true, Bool.not_false, Int.reduceBEq, Int.reduceBNe, gb3.dA]
    refine Ev.callC q1 ?_
    simp only [real_b, real_i, real_c, chk_t, bnd_some, bnd_up, iff_t, iff_f, gd_t, gd_f, wd_b, wd_u, pick_t, pick_f, b_lss, b_leq, b_gtr, b_geq, b_eql, b_neq, b_seql, b_sneq, b_add, b_sub, u_not, nilC_ptr, fAddr_ptr, Nat.zero_add, extr0, extr1, extr2, lenStr, decide_true, decide_false, bt_tt, bt_tf, bt_ft, bt_ff, bt_bne, Bool.not_true, Bool.not_false, Int.reduceBEq, Int.reduceBNe, ga4.dA]
    refine Ev.callC r1 ?_
    simp only [real_b, real_i, real_c, chk_t, bnd_some, bnd_up, iff_t, iff_f, gd_t, gd_f, wd_b, wd_u, pick_t, pick_f, b_lss, b_leq, b_gtr, b_geq, b_eql, b_neq, b_seql, b_sneq, b_add, b_sub, u_not, nilC_ptr, fAddr_ptr, Nat.zero_add, extr0, extr1, extr2, lenStr, decide_true, decide_false, bt_tt, bt_tf, bt_ft, bt_ff, bt_bne, Bool.not_true, Bool.not_false, Int.reduceBEq, Int.reduceBNe, gb5.dA]
    refine Ev.callC s1 ?_
    have e' := e
    simp only [f7_T, real_b, real_i, real_c, chk_t, bnd_some, bnd_up, iff_t, iff_f, gd_t, gd_f, wd_b, wd_u, pick_t, pick_f, b_lss, b_leq, b_gtr, b_geq, b_eql, b_neq, b_seql, b_sneq, b_add, b_sub, u_not, nilC_ptr, fAddr_ptr, Nat.zero_add, extr0, extr1, extr2, lenStr, decide_true, decide_false, bt_tt, bt_tf, bt_ft, bt_ff, bt_bne, Bool.not_true, Bool.not_false, Int.reduceBEq, Int.reduceBNe] at e'
    simp only [real_b, real_i, real_c, chk_t, bnd_some, bnd_up, iff_t, iff_f, gd_t, gd_f, wd_b, wd_u, pick_t, pick_f, b_lss, b_leq, b_gtr, b_geq, b_eql, b_neq, b_seql, b_sneq, b_add, b_sub, u_not, nilC_ptr, fAddr_ptr, Nat.zero_add, extr0, extr1, extr2, lenStr, decide_true, decide_false, bt_tt, bt_tf, bt_ft, bt_ff, bt_bne, Bool.not_true, Bool.not_false, Int.reduceBEq, Int.reduceBNe, show (endE (gE a) (pkey a) == 0) = false by simpa using j1, Bool.true_or]
    exact e'
end Go.Eng
