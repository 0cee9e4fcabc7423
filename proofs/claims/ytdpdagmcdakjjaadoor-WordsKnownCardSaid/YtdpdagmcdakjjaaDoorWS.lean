/- The law WordsJoin. -/
import Derived.Test.YtdpdagmcdakjjaaDoorWR
set_option linter.unusedVariables false
set_option linter.unusedSimpArgs false
set_option maxRecDepth 100000
namespace Go.Eng
open Go Go.Proofs

/-! ### two lists that are made side by side -/
/-- Their blocks are two. -/
def Ds (v w : Value) : Prop := ∀ b, blkOf v = some b → blkOf w ≠ some b
theorem Ds.symm {v w : Value} (h : Ds v w) : Ds w v := fun b h1 h2 => h b h2 h1
theorem Acc.othr {H0 H H' : Heap} {sz n : Nat} {v w : Value} {cs : List Value} (h : Acc (all H0) H sz w n cs) (hd : Ds v w) (hk : Keep (fun b => b < H.n ∧ blkOf v ≠ some b) H H') : Acc (all H0) H' sz w n cs := by
  rcases h with ⟨rfl, h2, h3⟩ | ⟨b, rfl, h2, h3, h4, h5⟩
  · exact .inl ⟨rfl, h2, h3⟩
  · refine .inr ⟨b, rfl, h2, Nat.lt_of_lt_of_le h3 hk.1, ?_, h5⟩
    rw [hk.2 b ⟨h3, fun e => hd b e rfl⟩]; exact h4
/-- An append beside another list. -/
theorem Acc.appQ {H0 H : Heap} {sz by_ n m : Nat} {v x : Value} {cs ds : List Value} (h : Acc (all H0) H sz v n cs) (hn : H0.n ≤ H.n) (hx : addend sz x H = some (m, ds)) (hd : ds.length = m * sz) (hb : (n + m) * by_ ≤ mostBytes) :
    ∃ v' H', Eng.app sz by_ v x H = some (v', H') ∧ Acc (all H0) H' sz v' (n + m) (cs ++ ds) ∧ Keep (all H0) H H' ∧ Keep (fun b => b < H.n ∧ blkOf v ≠ some b) H H' ∧ (∀ {sz2 n2 : Nat} {w : Value} {es : List Value}, Acc (all H0) H sz2 w n2 es → Ds v w → Acc (all H0) H' sz2 w n2 es ∧ Ds v' w) := by
  have hQ : ∀ b, all H0 b → (b < H.n ∧ blkOf v ≠ some b) := fun b hb => ⟨Nat.lt_of_lt_of_le hb hn, fun e => (h.at e).1 hb⟩
  have h' : Acc (fun b => b < H.n ∧ blkOf v ≠ some b) H sz v n cs := h.weak fun b hb hq => hq.2 hb
  obtain ⟨v', H', g1, g2, g3⟩ := h'.app (by_ := by_) (fun b hb => hb.1) hx hd hb
  refine ⟨v', H', g1, g2.low hQ, g3.mono hQ, g3, fun {sz2 n2 w es} hw hD => ⟨hw.othr hD g3, fun b e1 e2 => ?_⟩⟩
  exact (g2.at e1).1 ⟨(hw.at e2).2, fun e3 => hD b e3 e2⟩
/-! ### what stands between -/
def puts2 : List (List UInt8) := [[32], [9], [10], [13, 10], [32, 35, 32, 61, 32, 34, 32, 47, 10]]
theorem puts2_skip : ∀ p ∈ puts2, Skip p ∧ p ≠ [] ∧ p.length ≤ 9 := by
  intro p hp
  simp only [puts2, List.mem_cons, List.not_mem_nil, or_false] at hp
  rcases hp with rfl | rfl | rfl | rfl | rfl
  · exact ⟨skip_blank rfl, by simp, by simp⟩
  · exact ⟨skip_blank rfl, by simp, by simp⟩
  · exact ⟨skip_blank rfl, by simp, by simp⟩
  · exact ⟨Skip.app (x := [13]) (y := [10]) (skip_blank rfl) (skip_blank rfl) (by simp), by simp, by simp⟩
  · exact ⟨Skip.app (x := [32]) (y := 35 :: ([32, 61, 32, 34, 32, 47] ++ [10])) (skip_blank rfl) (skip_remark (r := [32, 61, 32, 34, 32, 47]) (by decide)) (by simp), by simp, by simp⟩
theorem puts2_bld {H : Heap} : bldS 1 5 [.string ⟨#[]⟩] [(0, 1, .string ⟨#[32]⟩), (1, 1, .string ⟨#[9]⟩), (2, 1, .string ⟨#[10]⟩), (3, 1, .string ⟨#[13, 10]⟩), (4, 1, .string ⟨#[32, 35, 32, 61, 32, 34, 32, 47, 10]⟩)] H =
    some (.slice (some ⟨H.n, 0, none⟩) 5 5, H.push ⟨STR puts2, 1, true⟩) := by kernel_rfl
/-- The words so far. -/
def JoinN (b : List UInt8) (pre : List Tok) : Prop := ∀ s, cutN 0 (b ++ s) = (pre ++ (cutN b.length s).1, (cutN b.length s).2)
theorem JoinN.nil : JoinN [] [] := fun s => by simp
theorem JoinN.step {b : List UInt8} {pre : List Tok} (h : JoinN b pre) {w q : List UInt8} {k : Nat} (hw : WordIs w k) (hq : Skip q) (hne : q ≠ []) : JoinN (b ++ (w ++ q)) (pre ++ [⟨k, b.length, b.length + w.length⟩]) := by
  intro s
  rw [List.append_assoc, h, List.append_assoc]
  have hh : ((q ++ s).head?.map wLet).getD false = false := by
    cases q with
    | nil => exact absurd rfl hne
    | cons c r => exact hq.1
  rw [hw.app hh, hq.2]
  simp only [List.length_append, List.append_assoc, List.singleton_append, Nat.add_assoc]
theorem join_exit {H0 H : Heap} {xs : List Int} {v0 v1 v5 v6 : Value} {b : List UInt8} {pre : List Tok} {i : Nat} (hL : Lg H0) (hx : Sli (all H0) H0 xs v0) (hJ : JoinN b pre) (hbl : b.length ≤ 51 * i) (hpre : pre.length = i) (hi : i ≤ 100) (hK : Keep (all H0) H0 H)
    (h5 : Acc (all H0) H 1 v5 b.length (B (U b))) (h6 : Acc (all H0) H 3 v6 pre.length (TOKS pre)) (he : xs.length ≤ i ∨ i = 100) :
    ∃ H', Ev (fun n m => f8_L0 real (AC n) n m v0 v1 v5 v6 (.int .i64 (i : Int)) H) (.bool true, H') := by
  have hx' : Sli (all H0) H xs v0 := hx.keep hK
  have hL' : Lg H := (hL.keep hK).mono (fun i hi => Nat.lt_of_lt_of_le hi hK.1)
  have hc : cutN 0 b = (pre, none) := by
    have h := hJ []
    rwa [List.append_nil, cut_nil, List.append_nil] at h
  have e := cutR_ok (b := b) (by omega) (by rw [hc])
  rw [hc] at e
  obtain ⟨w, H1, a1, a2, a3⟩ := wcut_ok hL' (Acc.slU h5) (by omega)
  rw [e] at a1 a2
  have o : tOk pre := by have h := tOk_cutR b; rw [e] at h; exact h
  have t1 : Tks (all H1) H1 pre w := a2.sl
  have t2 : Tks (all H1) H1 pre v6 := Sl.up h6.sl a3
  have b1 := same_ok t1 t2 (by omega) o o
  rw [decide_eq_true rfl] at b1
  obtain ⟨H2, f1, f2⟩ := awake_ok (Box.up hL' a3)
  refine ⟨H2, ?_⟩
  have e1 : ((0 : Int) == 0) = true := rfl
  rcases Nat.lt_or_ge i xs.length with hlt | hge
  · have e0 : ((i : Int) < 100) = False := eq_false (by omega)
    refine Ev.step (fun n m => f8_L0.eq_2 _ _ _ _ _ _ _ _ _ _) ?_
    simp only [real_b, real_i, real_c, chk_t, bnd_some, bnd_up, iff_t, iff_f, gd_t, gd_f, wd_b, wd_u, pick_t, pick_f, b_lss, b_leq, b_gtr, b_geq, b_eql, b_neq, b_seql, b_sneq, b_add, b_sub, u_not, nilC_ptr, fAddr_ptr, Nat.zero_add, extr0, extr1, extr2, lenStr, decide_true, decide_false, bt_tt, bt_tf, bt_ft, bt_ff, bt_bne, Bool.not_true, Bool.not_false, Int.reduceBEq, Int.reduceBNe, extr30, extr31, hx'.lenS, idx_lt hlt, e0]
    refine Ev.callC a1 ?_
    simp only [real_b, real_i, real_c, chk_t, bnd_some, bnd_up, iff_t, iff_f, gd_t, gd_f, wd_b, wd_u, pick_t, pick_f, b_lss, b_leq, b_gtr, b_geq, b_eql, b_neq, b_seql, b_sneq, b_add, b_sub, u_not, nilC_ptr, fAddr_ptr, Nat.zero_add, extr0, extr1, extr2, lenStr, decide_true, decide_false, bt_tt, bt_tf, bt_ft, bt_ff, bt_bne, Bool.not_true, Bool.not_false, Int.reduceBEq, Int.reduceBNe, extr30, extr31, e1]
    refine Ev.callC b1 ?_
    simp only [real_b, real_i, real_c, chk_t, bnd_some, bnd_up, iff_t, iff_f, gd_t, gd_f, wd_b, wd_u, pick_t, pick_f, b_lss, b_leq, b_gtr, b_geq, b_eql, b_neq, b_seql, b_sneq, b_add, b_sub, u_not, nilC_ptr, fAddr_ptr, Nat.zero_add, extr0, extr1, extr2, lenStr, decide_true, decide_false, bt_tt, bt_tf, bt_ft, bt_ff, bt_bne, Bool.not_true, Bool.not_false, Int.reduceBEq, Int.reduceBNe, extr30, extr31]
    refine Ev.callC f1 ?_
    exact Ev.pure _
  · refine Ev.step (fun n m => f8_L0.eq_2 _ _ _ _ _ _ _ _ _ _) ?_
    simp only [real_b, real_i, real_c, chk_t, bnd_some, bnd_up, iff_t, iff_f, gd_t, gd_f, wd_b, wd_u, pick_t, pick_f, b_lss, b_leq, b_gtr, b_geq, b_eql, b_neq, b_seql, b_sneq, b_add, b_sub, u_not, nilC_ptr, fAddr_ptr, Nat.zero_add, extr0, extr1, extr2, lenStr, decide_true, decide_false, bt_tt, bt_tf, bt_ft, bt_ff, bt_bne, Bool.not_true, Bool.not_false, Int.reduceBEq, Int.reduceBNe, extr30, extr31, hx'.lenS, idx_ge hge]
    refine Ev.callC a1 ?_
    simp only [real_b, real_i, real_c, chk_t, bnd_some, bnd_up, iff_t, iff_f, gd_t, gd_f, wd_b, wd_u, pick_t, pick_f, b_lss, b_leq, b_gtr, b_geq, b_eql, b_neq, b_seql, b_sneq, b_add, b_sub, u_not, nilC_ptr, fAddr_ptr, Nat.zero_add, extr0, extr1, extr2, lenStr, decide_true, decide_false, bt_tt, bt_tf, bt_ft, bt_ff, bt_bne, Bool.not_true, Bool.not_false, Int.reduceBEq, Int.reduceBNe, extr30, extr31, e1]
    refine Ev.callC b1 ?_
    simp only [real_b, real_i, real_c, chk_t, bnd_some, bnd_up, iff_t, iff_f, gd_t, gd_f, wd_b, wd_u, pick_t, pick_f, b_lss, b_leq, b_gtr, b_geq, b_eql, b_neq, b_seql, b_sneq, b_add, b_sub, u_not, nilC_ptr, fAddr_ptr, Nat.zero_add, extr0, extr1, extr2, lenStr, decide_true, decide_false, bt_tt, bt_tf, bt_ft, bt_ff, bt_bne, Bool.not_true, Bool.not_false, Int.reduceBEq, Int.reduceBNe, extr30, extr31]
    refine Ev.callC f1 ?_
    exact Ev.pure _
theorem join_loop {H0 : Heap} {xs : List Int} {ts : List ByteArray} {v0 v1 : Value} (hL : Lg H0) (hx : Sli (all H0) H0 xs v0) (hy : Sli (all H0) H0 ts v1) (hxl : xs.length < 9223372036854775807) (hyl : ts.length < 9223372036854775807) :
    ∀ (k i : Nat) (H : Heap) (v5 v6 : Value) (b : List UInt8) (pre : List Tok), 100 - i ≤ k → pre.length = i → b.length ≤ 51 * i → i ≤ 100 → JoinN b pre → Keep (all H0) H0 H → Acc (all H0) H 1 v5 b.length (B (U b)) → Acc (all H0) H 3 v6 pre.length (TOKS pre) → Ds v5 v6 →
    ∃ H', Ev (fun n m => f8_L0 real (AC n) n m v0 v1 v5 v6 (.int .i64 (i : Int)) H) (.bool true, H') := by
  have hm : mostBytes = 140737488355328 := rfl
  intro k
  induction k with
  | zero =>
    intro i H v5 v6 b pre hk hpre hbl hi hJ hK h5 h6 hD
    obtain rfl : i = 100 := by omega
    exact join_exit hL hx hJ hbl hpre hi hK h5 h6 (.inr rfl)
  | succ k ih =>
    intro i H v5 v6 b pre hk hpre hbl hi hJ hK h5 h6 hD
    by_cases hend : i < xs.length ∧ i < 100
    case neg => exact join_exit hL hx hJ hbl hpre hi hK h5 h6 (by omega)
    obtain ⟨he1, he2⟩ := hend
    have hx' : Sli (all H0) H xs v0 := hx.keep hK
    have hy' : Sli (all H0) H ts v1 := hy.keep hK
    have hL' : Lg H := (hL.keep hK).mono (fun i hi => Nat.lt_of_lt_of_le hi hK.1)
    obtain ⟨x, x1, _⟩ := drop_at (l := xs) (i := i) he1
    obtain ⟨p, p1, p2, p3⟩ := hx'.int x1
    -- behind the text's choice
    have next : ∀ s : List UInt8, ∃ H', Ev (fun n m => f8_J1 real (AC n) n (f8_L0 real (AC n) n m) v0 v1 v5 v6 (.int .i64 (i : Int)) (.string (bs s)) H) (.bool true, H') := by
      intro s
      have em : minV (.int .i64 (s.length : Int)) (.int .i64 40) H = some (.int .i64 ((min s.length 40 : Nat) : Int), H) := minV_nat (a := s.length) (b := 40)
      have et : slcStr (.string (bs s)) none (some (.int .i64 ((min s.length 40 : Nat) : Int))) = some (.string (bs (s.take (min s.length 40)))) := bs_upto (Nat.min_le_left _ _)
      have htl : (s.take (min s.length 40)).length ≤ 40 := by rw [List.length_take]; omega
      generalize s.take (min s.length 40) = t at *
      obtain ⟨H1, w1, w2⟩ := writ_ok hL' htl p3
      have hwl := writ_len x htl
      have hwi := writ_is x t
      generalize hW : writN x t = W at *
      have K1 : Keep (all H0) H0 H1 := hK.trans (w2.of_all ((Rb.all H0).mono hK.1))
      have h5a := h5.keep w2
      have h6a := h6.keep w2
      have kp : Keep (all H1) H1 (H1.push ⟨TOK ⟨W.2, b.length, b.length + W.1.length⟩, 3, true⟩) := push_keep
      have hx1 : addend 3 (.slice (some ⟨H1.n, 0, none⟩) 1 1) (H1.push ⟨TOK ⟨W.2, b.length, b.length + W.1.length⟩, 3, true⟩) = some (1, TOK ⟨W.2, b.length, b.length + W.1.length⟩) := addend_push rfl
      obtain ⟨v6', H2, a1, a2, a3, a4, a5⟩ := (h6a.keep kp).appQ (by_ := 24) (Nat.le_trans K1.1 kp.1) hx1 rfl (by omega)
      obtain ⟨h5b, hDb⟩ := a5 (h5a.keep kp) hD.symm
      have K2 : Keep (all H0) H0 H2 := (K1.trans (kp.of_all ((Rb.all H0).mono K1.1))).trans a3
      rw [show TOKS pre ++ TOK ⟨W.2, b.length, b.length + W.1.length⟩ = TOKS (pre ++ [⟨W.2, b.length, b.length + W.1.length⟩]) from (TOKS_snoc _ _).symm] at a2
      have kq : Keep (all H2) H2 (H2.push ⟨STR puts2, 1, true⟩) := push_keep
      have K3 : Keep (all H0) H0 (H2.push ⟨STR puts2, 1, true⟩) := K2.trans (kq.of_all ((Rb.all H0).mono K2.1))
      have hx3 : Sli (all H0) (H2.push ⟨STR puts2, 1, true⟩) xs v0 := hx.keep K3
      obtain ⟨p', p1', p2', _⟩ := hx3.int x1
      obtain rfl : p = p' := Option.some.inj (p1.symm.trans p1')
      obtain ⟨j, j1, j2⟩ := bring_nat (i := x) (n := 5) (by omega)
      have c2 := bring_ok p3 (n := 5) (by omega) (H2.push ⟨STR puts2, 1, true⟩)
      have j1' : bringN x 5 = (j : Int) := j1
      rw [j1'] at c2
      have hpu : Sl (all (H2.push ⟨STR puts2, 1, true⟩)) (H2.push ⟨STR puts2, 1, true⟩) 1 (.slice (some ⟨H2.n, 0, none⟩) 5 5) 5 (STR puts2) := push_SlV (by simp [all, push_n]) rfl
      obtain ⟨q, q1, _⟩ := drop_at (l := puts2) (i := j) j2
      obtain ⟨pp, g1, g2⟩ := hpu.at1 (i := j) (x := .string (bs q)) (by simp [STR, q1])
      obtain ⟨s1, s2, s3⟩ := puts2_skip q (List.mem_of_getElem? q1)
      have es : binB Tryd.prog .add 9 (.string (bs W.1)) (.string (bs q)) = some (.string (bs (W.1 ++ q))) := b_sadd (by omega)
      have hD2 : Ds v5 v6' := hDb.symm
      obtain ⟨v5', H3, m1, m2, m3, m4, m5⟩ := (h5b.keep kq).appQ (by_ := 1) K3.1 (addend_bs (l := W.1 ++ q)) (by simp [B, U]) (by simp only [List.length_append]; omega)
      obtain ⟨h6c, hDc⟩ := m5 (a2.keep kq) hD2
      have e5 : B (U b) ++ B (U (W.1 ++ q)) = B (U (b ++ (W.1 ++ q))) := by simp [B, U]
      have e5l : b.length + (W.1 ++ q).length = (b ++ (W.1 ++ q)).length := by simp
      rw [e5, e5l] at m2
      have e6l : pre.length + 1 = (pre ++ [(⟨W.2, b.length, b.length + W.1.length⟩ : Tok)]).length := by simp
      rw [e6l] at h6c
      obtain ⟨H', f⟩ := ih (i + 1) H3 v5' v6' (b ++ (W.1 ++ q)) (pre ++ [⟨W.2, b.length, b.length + W.1.length⟩]) (by omega) (by simp [hpre]) (by simp only [List.length_append]; omega) (by omega) (hJ.step hwi s1 s2) (K3.trans m3) m2 h6c hDc
      refine ⟨H', ?_⟩
      have hl5 : lenS v5 = some (.int .i64 (b.length : Int)) := h5.sl.lenS
      have a1' : Eng.app 3 24 v6 (.slice (some ⟨H1.n, 0, none⟩) 1 1) (H1.push ⟨[.int .i64 (W.2 : Int), .int .i64 (b.length : Int), .int .i64 ((b.length + W.1.length : Nat) : Int)], 3, true⟩) = some (v6', H2) := a1
      simp only [f8_J1, real_b, real_i, real_c, chk_t, bnd_some, bnd_up, iff_t, iff_f, gd_t, gd_f, wd_b, wd_u, pick_t, pick_f, b_lss, b_leq, b_gtr, b_geq, b_eql, b_neq, b_seql, b_sneq, b_add, b_sub, u_not, nilC_ptr, fAddr_ptr, Nat.zero_add, extr0, extr1, extr2, lenStr, decide_true, decide_false, bt_tt, bt_tf, bt_ft, bt_ff, bt_bne, Bool.not_true, Bool.not_false, Int.reduceBEq, Int.reduceBNe, extr30, extr31, bs_size, em, et, p1, p2]
      refine Ev.callC w1 ?_
      simp only [real_b, real_i, real_c, chk_t, bnd_some, bnd_up, iff_t, iff_f, gd_t, gd_f, wd_b, wd_u, pick_t, pick_f, b_lss, b_leq, b_gtr, b_geq, b_eql, b_neq, b_seql, b_sneq, b_add, b_sub, u_not, nilC_ptr, fAddr_ptr, Nat.zero_add, extr0, extr1, extr2, lenStr, decide_true, decide_false, bt_tt, bt_tf, bt_ft, bt_ff, bt_bne, Bool.not_true, Bool.not_false, Int.reduceBEq, Int.reduceBNe, extr30, extr31, hl5, bs_size, add_len (show b.length + W.1.length < 9223372036854775807 by omega), bld3, bldS3, a1', puts2_bld, p2']
      refine Ev.callC c2 ?_
      simp only [real_b, real_i, real_c, chk_t, bnd_some, bnd_up, iff_t, iff_f, gd_t, gd_f, wd_b, wd_u, pick_t, pick_f, b_lss, b_leq, b_gtr, b_geq, b_eql, b_neq, b_seql, b_sneq, b_add, b_sub, u_not, nilC_ptr, fAddr_ptr, Nat.zero_add, extr0, extr1, extr2, lenStr, decide_true, decide_false, bt_tt, bt_tf, bt_ft, bt_ff, bt_bne, Bool.not_true, Bool.not_false, Int.reduceBEq, Int.reduceBNe, extr30, extr31, g1, g2, es, m1, idx_up (show i < 9223372036854775807 by omega)]
      exact f
    have e0 : ((i : Int) < 100) = True := eq_true (by omega)
    by_cases hts : 0 < ts.length
    · obtain ⟨j, j1, j2⟩ := bring_nat (i := x) hts
      have c1 := bring_ok p3 (n := (ts.length : Int)) (by omega) H
      rw [j1] at c1
      obtain ⟨t, t1, _⟩ := drop_at (l := ts) (i := j) j2
      obtain ⟨pp, g1, g2⟩ := hy'.str t1
      rw [← bs_back t] at g2
      obtain ⟨H', f⟩ := next t.data.toList
      refine ⟨H', ?_⟩
      refine Ev.step (fun n m => f8_L0.eq_2 _ _ _ _ _ _ _ _ _ _) ?_
      have e1 : ((ts.length : Int) > 0) = True := eq_true (by omega)
      simp only [real_b, real_i, real_c, chk_t, bnd_some, bnd_up, iff_t, iff_f, gd_t, gd_f, wd_b, wd_u, pick_t, pick_f, b_lss, b_leq, b_gtr, b_geq, b_eql, b_neq, b_seql, b_sneq, b_add, b_sub, u_not, nilC_ptr, fAddr_ptr, Nat.zero_add, extr0, extr1, extr2, lenStr, decide_true, decide_false, bt_tt, bt_tf, bt_ft, bt_ff, bt_bne, Bool.not_true, Bool.not_false, Int.reduceBEq, Int.reduceBNe, extr30, extr31, hx'.lenS, idx_lt he1, e0, hy'.lenS, e1, p1, p2]
      refine Ev.callC c1 ?_
      simp only [real_b, real_i, real_c, chk_t, bnd_some, bnd_up, iff_t, iff_f, gd_t, gd_f, wd_b, wd_u, pick_t, pick_f, b_lss, b_leq, b_gtr, b_geq, b_eql, b_neq, b_seql, b_sneq, b_add, b_sub, u_not, nilC_ptr, fAddr_ptr, Nat.zero_add, extr0, extr1, extr2, lenStr, decide_true, decide_false, bt_tt, bt_tf, bt_ft, bt_ff, bt_bne, Bool.not_true, Bool.not_false, Int.reduceBEq, Int.reduceBNe, extr30, extr31, g1, g2]
      exact f
    · obtain ⟨H', f⟩ := next []
      refine ⟨H', ?_⟩
      refine Ev.step (fun n m => f8_L0.eq_2 _ _ _ _ _ _ _ _ _ _) ?_
      have e1 : ((ts.length : Int) > 0) = False := eq_false (by omega)
      simp only [real_b, real_i, real_c, chk_t, bnd_some, bnd_up, iff_t, iff_f, gd_t, gd_f, wd_b, wd_u, pick_t, pick_f, b_lss, b_leq, b_gtr, b_geq, b_eql, b_neq, b_seql, b_sneq, b_add, b_sub, u_not, nilC_ptr, fAddr_ptr, Nat.zero_add, extr0, extr1, extr2, lenStr, decide_true, decide_false, bt_tt, bt_tf, bt_ft, bt_ff, bt_bne, Bool.not_true, Bool.not_false, Int.reduceBEq, Int.reduceBNe, extr30, extr31, hx'.lenS, idx_lt he1, e0, hy'.lenS, e1]
      exact f
theorem wordsJoin_ok {H : Heap} {xs : List Int} {ts : List ByteArray} {v0 v1 : Value} (hL : Lg H) (hx : Sli (all H) H xs v0) (hy : Sli (all H) H ts v1) (hxl : xs.length < 9223372036854775807) (hyl : ts.length < 9223372036854775807) : ∃ H', Cl 8 [v0, v1] H (.bool true) H' := by
  obtain ⟨H', g⟩ := join_loop hL hx hy hxl hyl 100 0 H nilS nilS [] [] (by omega) rfl (by simp) (by omega) JoinN.nil (Keep.refl _ _) Acc.nil Acc.nil (fun b h => by cases h)
  refine ⟨H', ?_⟩
  refine Ev.enter (fun n => f8_eq rfl n _ _ _) ?_
  exact g.loop
end Go.Eng
