/- The laws WordsSpread, WordsMay, WordsAlone. -/
import Derived.Test.YtdpdagmcdakjjaaDoorWN
set_option linter.unusedVariables false
set_option linter.unusedSimpArgs false
set_option maxRecDepth 100000
namespace Go.Eng
open Go Go.Proofs

theorem minV_nat {a b : Nat} {H : Heap} : minV (.int .i64 (a : Int)) (.int .i64 (b : Int)) H = some (.int .i64 ((min a b : Nat) : Int), H) := by
  have e : (if (b : Int) < (a : Int) then (b : Int) else (a : Int)) = ((min a b : Nat) : Int) := by
    split <;> omega
  simp only [minV, if_true, e]
theorem sb_bs {l : List UInt8} : sb (bs l) = U l := rfl
theorem addend_bs {l : List UInt8} {H : Heap} : addend 1 (.string (bs l)) H = some (l.length, B (U l)) := by
  have := addend_str (s := bs l) (H := H)
  rwa [sb_bs, U_len] at this
theorem bring_nat {i : Int} {n : Nat} (h : 0 < n) : ∃ j : Nat, bringN i (n : Int) = (j : Int) ∧ j < n := by
  have := bring_in (i := i) (n := (n : Int)) (by omega)
  exact ⟨(bringN i n).toNat, by omega, by omega⟩
/-- What is put between two words. -/
def puts : List (List UInt8) := [[32], [10, 10], [9], [35, 32, 114, 101, 109, 97, 114, 107, 32, 59, 10], [13]]
theorem puts_skip : ∀ p ∈ puts, Skip p ∧ p ≠ [] ∧ p.length ≤ 11 := by
  intro p hp
  simp only [puts, List.mem_cons, List.not_mem_nil, or_false] at hp
  rcases hp with rfl | rfl | rfl | rfl | rfl
  · exact ⟨skip_blank rfl, by simp, by simp⟩
  · exact ⟨Skip.app (x := [10]) (y := [10]) (skip_blank rfl) (skip_blank rfl) (by simp), by simp, by simp⟩
  · exact ⟨skip_blank rfl, by simp, by simp⟩
  · exact ⟨skip_remark (r := [32, 114, 101, 109, 97, 114, 107, 32, 59]) (by decide), by simp, by simp⟩
  · exact ⟨skip_blank rfl, by simp, by simp⟩
def STR (l : List (List UInt8)) : List Value := l.map fun s => .string (bs s)
theorem puts_bld {H : Heap} : bldS 1 5 [.string ⟨#[]⟩] [(0, 1, .string ⟨#[32]⟩), (1, 1, .string ⟨#[10, 10]⟩), (2, 1, .string ⟨#[9]⟩), (3, 1, .string ⟨#[35, 32, 114, 101, 109, 97, 114, 107, 32, 59, 10]⟩), (4, 1, .string ⟨#[13]⟩)] H =
    some (.slice (some ⟨H.n, 0, none⟩) 5 5, H.push ⟨STR puts, 1, true⟩) := by kernel_rfl
theorem push_SlV {R : Nat → Prop} {H : Heap} {d : List Value} {n : Nat} (hR : R H.n) (hn : n = d.length) : Sl R (H.push ⟨d, 1, true⟩) 1 (.slice (some ⟨H.n, 0, none⟩) n n) n d := by
  subst hn
  exact .inr (.inr ⟨H.n, 0, none, d.length, _, rfl, hR, push_self, by simp, by simp, by simp [cut]⟩)
theorem cutR_ok {b : List UInt8} (hb : b.length ≤ 8192) (h : (cutN 0 b).2 = none) : cutR b = ((cutN 0 b).1, 0, 0) := by
  unfold cutR cutG; rw [if_neg (by omega), h]; rfl
theorem cutR_err {b : List UInt8} (hb : b.length ≤ 8192) (h : (cutN 0 b).2 ≠ none) : ∃ e : Int, cutR b = ([], e, 140) := by
  unfold cutR cutG; rw [if_neg (by omega)]
  cases hc : (cutN 0 b).2 with
  | none => exact absurd hc h
  | some e => exact ⟨e, rfl⟩
theorem kindsI_N (x : List Tok) : kindsI x = (x.map (·.K)).map Nat.cast := by simp [kindsI]
theorem Acc.app1 {H0 H : Heap} {v x : Value} {n m : Nat} {cs ds : List Value} (h : Acc (all H0) H 1 v n cs) (hn : H0.n ≤ H.n) (hx : addend 1 x H = some (m, ds)) (hd : ds.length = m * 1) (hb : n + m ≤ mostBytes) : ∃ v' H', Eng.app 1 1 v x H = some (v', H') ∧ Acc (all H0) H' 1 v' (n + m) (cs ++ ds) ∧ Keep (all H0) H H' := by
  obtain ⟨v', H', g1, g2, g3⟩ := h.app (by_ := 1) ((Rb.all H0).mono hn) hx (by omega) (by omega)
  exact ⟨v', H', g1, g2, g3⟩
theorem wordsSpread_ok {H : Heap} {b : List UInt8} {v : Value} {x1 x2 : Int} (hL : Lg H) (hs : SlU (all H) H b v) (hb : b.length < 9223372036854775807) (i1 : inI x1) (i2 : inI x2) : ∃ H', Cl 5 [v, .int .i64 x1, .int .i64 x2] H (.bool true) H' := by
  have hm : mostBytes = 140737488355328 := rfl
  obtain ⟨u, u1, u2⟩ := hs.take (i := min b.length 7000) (Nat.min_le_left _ _)
  have hlt : (b.take (min b.length 7000)).length ≤ 7000 := by rw [List.length_take]; omega
  obtain ⟨w1, H2, b1, b2, b3⟩ := wcut_ok hL u2 (by omega)
  obtain ⟨H4, f1, f2⟩ := awake_ok (Box.up hL b3)
  have e0 : minV (.int .i64 (b.length : Int)) (.int .i64 7000) H = some (.int .i64 ((min b.length 7000 : Nat) : Int), H) := minV_nat (a := b.length) (b := 7000)
  generalize hp : b.take (min b.length 7000) = p at *
  by_cases hc : (cutN 0 p).2 = none
  · have e := cutR_ok (b := p) (by omega) hc
    rw [e] at b1 b2
    have ht : Tks (all H2) H2 (cutN 0 p).1 w1 := b2.sl
    have hln := cutN_len p 0
    cases hts : (cutN 0 p).1 with
    | nil =>
      rw [hts] at ht
      refine ⟨H4, ?_⟩
      refine Ev.enter (fun n => f5_eq rfl n _ _ _ _) ?_
      simp only [f5, real_b, real_i, real_c, chk_t, bnd_some, bnd_up, iff_t, iff_f, gd_t, gd_f, wd_b, wd_u, pick_t, pick_f, b_lss, b_leq, b_gtr, b_geq, b_eql, b_neq, b_seql, b_sneq, b_add, b_sub, u_not, nilC_ptr, fAddr_ptr, Nat.zero_add, extr0, extr1, extr2, lenStr, decide_true, decide_false, bt_tt, bt_tf, bt_ft, bt_ff, bt_bne, Bool.not_true, Bool.not_false, Int.reduceBEq, Int.reduceBNe, extr30, extr31, hs.len, e0, u1]
      refine Ev.callC b1 ?_
      have e1 : ((0 : Int) != 0) = false := rfl
      have e2 : lenS w1 = some (.int .i64 0) := Sl.lenS ht
      simp only [real_b, real_i, real_c, chk_t, bnd_some, bnd_up, iff_t, iff_f, gd_t, gd_f, wd_b, wd_u, pick_t, pick_f, b_lss, b_leq, b_gtr, b_geq, b_eql, b_neq, b_seql, b_sneq, b_add, b_sub, u_not, nilC_ptr, fAddr_ptr, Nat.zero_add, extr0, extr1, extr2, lenStr, decide_true, decide_false, bt_tt, bt_tf, bt_ft, bt_ff, bt_bne, Bool.not_true, Bool.not_false, Int.reduceBEq, Int.reduceBNe, extr30, extr31, e1, e2]
      refine Ev.callC f1 ?_
      exact Ev.pure _
    | cons t0 tr =>
      have hne : 0 < (cutN 0 p).1.length := by rw [hts]; simp
      generalize hts2 : (cutN 0 p).1 = ts at *
      clear hts
      obtain ⟨j, j1, j2⟩ := bring_nat (i := x1) hne
      obtain ⟨k, k1, k2⟩ := bring_nat (i := x2) (n := 5) (by omega)
      have c1 := bring_ok i1 (n := (ts.length : Int)) (by omega) H2
      rw [j1] at c1
      obtain ⟨t, t1, _⟩ := drop_at (l := ts) (i := j) j2
      obtain ⟨bb, o, a1, _, _, a2⟩ := ht.at t1
      have hwi := cut_wordIs p 0 t (by rw [hts2]; exact List.mem_of_getElem? t1)
      have hT : t.T ≤ p.length := by omega
      have hpl : p.length ≤ b.length := by rw [← hp, List.length_take]; omega
      have hpl2 : p.length = min b.length 7000 := by rw [← hp, List.length_take]; omega
      have kp : Keep (all H2) H2 (H2.push ⟨TOK t, 1, true⟩) := push_keep
      have st : stV 3 (ptr H2.n 0) (.agg #[.int .i64 (t.K : Int), .int .i64 (t.F : Int), .int .i64 (t.T : Int)]) (H2.push ⟨[.int .i64 0, .int .i64 0, .int .i64 0], 1, true⟩) = some (undef, H2.push ⟨TOK t, 1, true⟩) := stA_push (ds := TOK t) rfl rfl rfl
      have hbx : Box (all (H2.push ⟨TOK t, 1, true⟩)) (H2.push ⟨TOK t, 1, true⟩) H2.n (TOK t) := push_boxA
      generalize hH3 : H2.push ⟨TOK t, 1, true⟩ = H3 at *
      have K3 : Keep (all H) H H3 := b3.tr kp
      have hs3 : SlU (all H3) H3 b v := Sl.up hs K3
      have l2 : ldC (ptr H2.n 2) H3 = some (.int .i64 (t.T : Int), H3) := hbx.ld rfl
      obtain ⟨y, y1, y2⟩ := hs3.take (i := t.T) (by omega)
      have hyl : (b.take t.T).length = t.T := by rw [List.length_take]; omega
      obtain ⟨z1, H5, z2, z3, z4⟩ := (Acc.nil (R := all H3) (H := H3) (sz := 1)).app1 (Nat.le_refl _) y2.addend (Sl.len y2) (by omega)
      rw [Nat.zero_add, List.nil_append] at z3
      have kq : Keep (all H5) H5 (H5.push ⟨STR puts, 1, true⟩) := push_keep
      have hpu : Sl (all (H5.push ⟨STR puts, 1, true⟩)) (H5.push ⟨STR puts, 1, true⟩) 1 (.slice (some ⟨H5.n, 0, none⟩) 5 5) 5 (STR puts) := push_SlV (by simp [all, push_n]) rfl
      have z5 := z3.keep kq
      have K6 : Keep (all H3) H3 (H5.push ⟨STR puts, 1, true⟩) := z4.tr kq
      generalize hH6 : H5.push ⟨STR puts, 1, true⟩ = H6 at *
      have c2 := bring_ok i2 (n := 5) (by omega) H6
      have k1' : bringN x2 5 = (k : Int) := k1
      rw [k1'] at c2
      have hk : k < puts.length := k2
      obtain ⟨q, q1, _⟩ := drop_at (l := puts) (i := k) hk
      obtain ⟨pp, p1, p2⟩ := hpu.at1 (i := k) (x := .string (bs q)) (by simp [STR, q1])
      obtain ⟨s1, s2, s3⟩ := puts_skip q (List.mem_of_getElem? q1)
      obtain ⟨z6, H7, g1, g2, g3⟩ := z5.app1 K6.1 (addend_bs (l := q)) (by simp [B, U]) (by omega)
      have K7 : Keep (all H3) H3 H7 := K6.trans g3
      have l2' : ldC (ptr H2.n 2) H7 = some (.int .i64 (t.T : Int), H7) := (hbx.keep K7).ld rfl
      have hs7 : SlU (all H3) H7 b v := Sl.keep hs3 K7
      have e7 : minV (.int .i64 (b.length : Int)) (.int .i64 7000) H7 = some (.int .i64 ((min b.length 7000 : Nat) : Int), H7) := minV_nat (a := b.length) (b := 7000)
      obtain ⟨r, r1, r2⟩ := hs7.part (k := .i64) (k' := .i64) (i := t.T) (j := min b.length 7000) (by omega) (Nat.min_le_left _ _)
      rw [hp] at r2
      obtain ⟨z8, H8, m1, m2, m3⟩ := g2.app1 K7.1 r2.addend (Sl.len r2) (by simp only [List.length_drop]; omega)
      have K8 : Keep (all H3) H3 H8 := K7.trans m3
      have ebt : b.take t.T = p.take t.T := by rw [← hp, List.take_take]; congr 1; omega
      have enew : B (U (b.take t.T)) ++ B (U q) ++ B (U (p.drop t.T)) = B (U (p.take t.T ++ q ++ p.drop t.T)) := by
        rw [ebt]; simp [B, U]
      have hnl : (p.take t.T ++ q ++ p.drop t.T).length = (b.take t.T).length + q.length + (p.drop t.T).length   := by rw [ebt]; simp only [List.length_append]
      rw [enew, ← hnl] at m2
      have hn8 : SlU (all H8) H8 (p.take t.T ++ q ++ p.drop t.T) z8 := Acc.slU m2
      have hnl2 : (p.take t.T ++ q ++ p.drop t.T).length ≤ 8192 := by
        simp only [List.length_append, List.length_take, List.length_drop]; omega
      have KA8 : Keep (all H) H H8 := K3.tr K8
      obtain ⟨w2, H9, d1, d2, d3⟩ := wcut_ok (Box.up hL KA8) hn8 (by omega)
      obtain ⟨sg1, sg2⟩ := spread_gen s1 s2 p 0 j t (by rw [hts2]; exact t1)
      rw [Nat.sub_zero] at sg1 sg2
      have hnone : (cutN 0 (p.take t.T ++ q ++ p.drop t.T)).2 = none := by
        cases h : (cutN 0 (p.take t.T ++ q ++ p.drop t.T)).2 with
        | none => rfl
        | some e' => rw [h, hc] at sg2; cases sg2
      have e9 := cutR_ok hnl2 hnone
      rw [e9] at d1 d2
      have K9 : Keep (all H) H H9 := KA8.tr d3
      have ht9 : Tks (all H9) H9 ts w1 := Sl.up ht ((kp.tr K8).tr d3)
      have hu9 : Tks (all H9) H9 (cutN 0 (p.take t.T ++ q ++ p.drop t.T)).1 w2 := d2.sl
      have hln2 := cutN_len (p.take t.T ++ q ++ p.drop t.T) 0
      obtain ⟨n1, H10, n2, n3, n4⟩ := kinds_ok ht9 (by omega)
      obtain ⟨o1, H11, o2, o3, o4⟩ := kinds_ok (Sl.up hu9 n4) (by omega)
      have ek : kindsI ts = kindsI (cutN 0 (p.take t.T ++ q ++ p.drop t.T)).1 := by
        rw [kindsI_N, kindsI_N]
        have := sg1
        simp only [kindsN] at this
        rw [this, hts2]
      have a9 := ints_ok (Sl.up n3.sl o4) o3.sl (by simp only [kindsI, List.length_map]; omega)
      rw [ek, decide_eq_true rfl] at a9
      obtain ⟨H12, f3, f4⟩ := awake_ok (Box.up hL (K9.tr (n4.tr o4)))
      refine ⟨H12, ?_⟩
      refine Ev.enter (fun n => f5_eq rfl n _ _ _ _) ?_
      simp only [f5, real_b, real_i, real_c, chk_t, bnd_some, bnd_up, iff_t, iff_f, gd_t, gd_f, wd_b, wd_u, pick_t, pick_f, b_lss, b_leq, b_gtr, b_geq, b_eql, b_neq, b_seql, b_sneq, b_add, b_sub, u_not, nilC_ptr, fAddr_ptr, Nat.zero_add, extr0, extr1, extr2, lenStr, decide_true, decide_false, bt_tt, bt_tf, bt_ft, bt_ff, bt_bne, Bool.not_true, Bool.not_false, Int.reduceBEq, Int.reduceBNe, extr30, extr31, hs.len, e0, u1]
      refine Ev.callC b1 ?_
      have e1 : ((0 : Int) != 0) = false := rfl
      have e1' : ((0 : Int) == 0) = true := rfl
      have e2 : lenS w1 = some (.int .i64 (ts.length : Int)) := Sl.lenS ht
      have e3 : ((ts.length : Int) == 0) = false := by
        rw [Bool.eq_false_iff]; intro h; have : (ts.length : Int) = 0 := by simpa using h
        omega
      simp only [real_b, real_i, real_c, chk_t, bnd_some, bnd_up, iff_t, iff_f, gd_t, gd_f, wd_b, wd_u, pick_t, pick_f, b_lss, b_leq, b_gtr, b_geq, b_eql, b_neq, b_seql, b_sneq, b_add, b_sub, u_not, nilC_ptr, fAddr_ptr, Nat.zero_add, extr0, extr1, extr2, lenStr, decide_true, decide_false, bt_tt, bt_tf, bt_ft, bt_ff, bt_bne, Bool.not_true, Bool.not_false, Int.reduceBEq, Int.reduceBNe, extr30, extr31, e1, e2, e3]
      refine Ev.callC c1 ?_
      simp only [real_b, real_i, real_c, chk_t, bnd_some, bnd_up, iff_t, iff_f, gd_t, gd_f, wd_b, wd_u, pick_t, pick_f, b_lss, b_leq, b_gtr, b_geq, b_eql, b_neq, b_seql, b_sneq, b_add, b_sub, u_not, nilC_ptr, fAddr_ptr, Nat.zero_add, extr0, extr1, extr2, lenStr, decide_true, decide_false, bt_tt, bt_tf, bt_ft, bt_ff, bt_bne, Bool.not_true, Bool.not_false, Int.reduceBEq, Int.reduceBNe, extr30, extr31, a1, a2, new3, st, hH3, l2, eq_false (show ¬ ((t.T : Int) < 0) by omega), hs3.len, eq_false (show ¬ ((t.T : Int) > (b.length : Int)) by omega), y1, z2, puts_bld, hH6]
      refine Ev.callC c2 ?_
      simp only [real_b, real_i, real_c, chk_t, bnd_some, bnd_up, iff_t, iff_f, gd_t, gd_f, wd_b, wd_u, pick_t, pick_f, b_lss, b_leq, b_gtr, b_geq, b_eql, b_neq, b_seql, b_sneq, b_add, b_sub, u_not, nilC_ptr, fAddr_ptr, Nat.zero_add, extr0, extr1, extr2, lenStr, decide_true, decide_false, bt_tt, bt_tf, bt_ft, bt_ff, bt_bne, Bool.not_true, Bool.not_false, Int.reduceBEq, Int.reduceBNe, extr30, extr31, p1, p2, g1, l2', hs7.len, e7, r1, m1]
      refine Ev.callC d1 ?_
      simp only [real_b, real_i, real_c, chk_t, bnd_some, bnd_up, iff_t, iff_f, gd_t, gd_f, wd_b, wd_u, pick_t, pick_f, b_lss, b_leq, b_gtr, b_geq, b_eql, b_neq, b_seql, b_sneq, b_add, b_sub, u_not, nilC_ptr, fAddr_ptr, Nat.zero_add, extr0, extr1, extr2, lenStr, decide_true, decide_false, bt_tt, bt_tf, bt_ft, bt_ff, bt_bne, Bool.not_true, Bool.not_false, Int.reduceBEq, Int.reduceBNe, extr30, extr31, e1']
      refine Ev.callC n2 ?_
      refine Ev.callC o2 ?_
      refine Ev.callC a9 ?_
      simp only [real_b, real_i, real_c, chk_t, bnd_some, bnd_up, iff_t, iff_f, gd_t, gd_f, wd_b, wd_u, pick_t, pick_f, b_lss, b_leq, b_gtr, b_geq, b_eql, b_neq, b_seql, b_sneq, b_add, b_sub, u_not, nilC_ptr, fAddr_ptr, Nat.zero_add, extr0, extr1, extr2, lenStr, decide_true, decide_false, bt_tt, bt_tf, bt_ft, bt_ff, bt_bne, Bool.not_true, Bool.not_false, Int.reduceBEq, Int.reduceBNe, extr30, extr31]
      refine Ev.callC f3 ?_
      exact Ev.pure _
  · obtain ⟨e, he⟩ := cutR_err (b := p) (by omega) hc
    rw [he] at b1
    refine ⟨H4, ?_⟩
    refine Ev.enter (fun n => f5_eq rfl n _ _ _ _) ?_
    simp only [f5, real_b, real_i, real_c, chk_t, bnd_some, bnd_up, iff_t, iff_f, gd_t, gd_f, wd_b, wd_u, pick_t, pick_f, b_lss, b_leq, b_gtr, b_geq, b_eql, b_neq, b_seql, b_sneq, b_add, b_sub, u_not, nilC_ptr, fAddr_ptr, Nat.zero_add, extr0, extr1, extr2, lenStr, decide_true, decide_false, bt_tt, bt_tf, bt_ft, bt_ff, bt_bne, Bool.not_true, Bool.not_false, Int.reduceBEq, Int.reduceBNe, extr30, extr31, hs.len, e0, u1]
    refine Ev.callC b1 ?_
    have e1 : ((140 : Int) != 0) = true := rfl
    simp only [real_b, real_i, real_c, chk_t, bnd_some, bnd_up, iff_t, iff_f, gd_t, gd_f, wd_b, wd_u, pick_t, pick_f, b_lss, b_leq, b_gtr, b_geq, b_eql, b_neq, b_seql, b_sneq, b_add, b_sub, u_not, nilC_ptr, fAddr_ptr, Nat.zero_add, extr0, extr1, extr2, lenStr, decide_true, decide_false, bt_tt, bt_tf, bt_ft, bt_ff, bt_bne, Bool.not_true, Bool.not_false, Int.reduceBEq, Int.reduceBNe, extr30, extr31, e1]
    refine Ev.callC f1 ?_
    exact Ev.pure _
end Go.Eng
