/- Levels, productions, grammars: what the program writes of them. -/
import Derived.Test.YtjnpiaigiljpjaaKM
set_option linter.unusedVariables false
set_option linter.unusedSimpArgs false
namespace Go.Eng
open Go Go.Proofs

theorem nbs_app (a b : List Int) : nbs (a ++ b) = nbs a ++ nbs b := List.flatMap_append
theorem lit1 {H : Heap} {a : Int} {z : Value} : bldS 1 1 [z] [(0, 1, .int .i64 a)] H = some (.slice (some ⟨H.n, 0, none⟩) [a].length [a].length, H.push ⟨I [a], 1, true⟩) := bld1 rfl rfl
theorem lit2 {H : Heap} {a b : Int} {z : Value} : bldS 1 2 [z] [(0, 1, .int .i64 a), (1, 1, .int .i64 b)] H = some (.slice (some ⟨H.n, 0, none⟩) [a, b].length [a, b].length, H.push ⟨I [a, b], 1, true⟩) := bld2 rfl rfl rfl rfl

theorem levels_loop {R : Nat → Prop} (xs : List Lv) (v : Value) (hn : xs.length < 9223372036854775807) : ∀ (k i : Nat), i + k = xs.length → ∀ (H : Heap) (p : Value) (l : List Nat) (e : Int), St R H p l (.int .i64 e) → Rb R H → Sli R H xs v → l.length + 18 * k ≤ 1000000000000 →
    ∃ H', Ev (fun n m => f49_L0 real (AC n) n m p v (.int .i64 (xs.length : Int)) (.int .i64 (i : Int)) H) (p, H') ∧ St R H' p (l ++ nbs (lvN (xs.drop i))) (.int .i64 (eN e (lvN (xs.drop i)))) ∧ Keep R H H' := by
  have hmb : mostBytes = 140737488355328 := rfl
  intro k
  induction k with
  | zero =>
    intro i hi H p l e hS hR hV hb
    have hd : xs.drop i = [] := List.drop_eq_nil_of_le (by omega)
    refine ⟨H, ?_, by simpa [hd, lvN, nbs, eN] using hS, Keep.refl _ _⟩
    refine Ev.step (fun n m => f49_L0.eq_2 _ _ _ _ _ _ _ _ _) ?_
    simp only [real_b, real_i, real_c, chk_t, bnd_some, bnd_up, iff_t, iff_f, gd_t, gd_f, wd_b, wd_u, pick_t, pick_f, b_lss, b_leq, b_gtr, b_geq, b_eql, b_neq, b_seql, b_sneq, b_add, b_sub, u_not, nilC_ptr, fAddr_ptr, Nat.zero_add, extr0, extr1, extr2, lenStr, decide_true, decide_false, bt_tt, bt_tf, bt_ft, bt_ff, bt_bne, Bool.not_true, Bool.not_false, Int.reduceBEq, Int.reduceBNe, idx_ge (show xs.length ≤ i by omega)]
    exact Ev.pure _
  | succ k ih =>
    intro i hi H p l e hS hR hV hb
    have hlt : i < xs.length := by omega
    obtain ⟨x, hx, hd⟩ := drop_at hlt
    obtain ⟨b, o, c, g1, g2, g3, g4, g5⟩ := hV.rec hx
    obtain ⟨rfl, hr1, hr2⟩ := rep_lv g3
    let H1 := (H.push ⟨[.int .i64 0, .int .i64 0], 1, true⟩).upd H.n (some ⟨[.int .i64 x.N, .int .i64 x.K], 1, true⟩)
    have k1 : Keep (all H) H H1 := push_upd (Rb.all H)
    have bx : Box (plus (all H) H H1) H1 H.n [.int .i64 x.N, .int .i64 x.K] := push_upd_box
    have st : stV 2 (ptr H.n 0) (.agg [Value.int .i64 x.N, .int .i64 x.K].toArray) (H.push ⟨[.int .i64 0, .int .i64 0], 1, true⟩) = some (undef, H1) := push_st rfl rfl rfl
    obtain ⟨H2, n1, n2, n3⟩ := numbers_lit (H := H1) [x.N, x.K] (by simp) (hS.keep k1) (hR.mono k1.1) (by simp only [List.length_cons, List.length_nil]; omega)
    have hl := nbs_len [x.N, x.K]
    simp only [List.length_cons, List.length_nil] at hl
    have kR : Keep R H H2 := (k1.of_all hR).trans n3
    obtain ⟨H', q1, q2, q3⟩ := ih (i + 1) (by omega) H2 p _ _ n2 (hR.mono kR.1) (hV.keep kR) (by simp only [List.length_append]; omega)
    refine ⟨H', ?_, ?_, kR.trans q3⟩
    · refine Ev.step (fun n m => f49_L0.eq_2 _ _ _ _ _ _ _ _ _) ?_
      simp only [real_b, real_i, real_c, chk_t, bnd_some, bnd_up, iff_t, iff_f, gd_t, gd_f, wd_b, wd_u, pick_t, pick_f, b_lss, b_leq, b_gtr, b_geq, b_eql, b_neq, b_seql, b_sneq, b_add, b_sub, u_not, nilC_ptr, fAddr_ptr, Nat.zero_add, extr0, extr1, extr2, lenStr, decide_true, decide_false, bt_tt, bt_tf, bt_ft, bt_ff, bt_bne, Bool.not_true, Bool.not_false, Int.reduceBEq, Int.reduceBNe, idx_lt hlt, show iAddrS 2 v (.int .i64 i) = some (ptr b o) from g1, show ldA 2 (ptr b o) H = _ from g5, newV_box (show List.all [Value.int .i64 0, .int .i64 0] oneC = true from rfl), st, bx.ld (k := 0) (v := .int .i64 x.N) rfl, bx.ld (k := 1) (v := .int .i64 x.K) rfl]
      rw [lit2]
      simp only [real_b, real_i, real_c, chk_t, bnd_some, bnd_up, iff_t, iff_f, gd_t, gd_f, wd_b, wd_u, pick_t, pick_f, b_lss, b_leq, b_gtr, b_geq, b_eql, b_neq, b_seql, b_sneq, b_add, b_sub, u_not, nilC_ptr, fAddr_ptr, Nat.zero_add, extr0, extr1, extr2, lenStr, decide_true, decide_false, bt_tt, bt_tf, bt_ft, bt_ff, bt_bne, Bool.not_true, Bool.not_false, Int.reduceBEq, Int.reduceBNe]
      refine Ev.callC n1 ?_
      simp only [real_b, real_i, real_c, chk_t, bnd_some, bnd_up, iff_t, iff_f, gd_t, gd_f, wd_b, wd_u, pick_t, pick_f, b_lss, b_leq, b_gtr, b_geq, b_eql, b_neq, b_seql, b_sneq, b_add, b_sub, u_not, nilC_ptr, fAddr_ptr, Nat.zero_add, extr0, extr1, extr2, lenStr, decide_true, decide_false, bt_tt, bt_tf, bt_ft, bt_ff, bt_bne, Bool.not_true, Bool.not_false, Int.reduceBEq, Int.reduceBNe, idx_up (show i < 9223372036854775807 by omega)]
      exact q1
    · rw [hd]
      have e1 : nbs (lvN (x :: xs.drop (i + 1))) = nbs [x.N, x.K] ++ nbs (lvN (xs.drop (i + 1))) := nbs_app [x.N, x.K] _
      have e2 : eN e (lvN (x :: xs.drop (i + 1))) = eN (eN e [x.N, x.K]) (lvN (xs.drop (i + 1))) := eN_append e [x.N, x.K] _
      rw [e1, e2, ← List.append_assoc]
      exact q2
theorem levels_ok {R : Nat → Prop} {xs : List Lv} {v : Value} {H : Heap} {p : Value} {l : List Nat} {e : Int} (hS : St R H p l (.int .i64 e)) (hR : Rb R H) (hV : Sli R H xs v) (hb : l.length + 18 * xs.length ≤ 1000000000000) :
    ∃ H', Cl 49 [p, v] H p H' ∧ St R H' p (l ++ nbs (lvN xs)) (.int .i64 (eN e (lvN xs))) ∧ Keep R H H' := by
  obtain ⟨H', q1, q2, q3⟩ := levels_loop xs v (by omega) xs.length 0 (by omega) H p l e hS hR hV (by omega)
  refine ⟨H', ?_, by simpa using q2, q3⟩
  refine Ev.enter (fun n => f49_eq rfl n _ _ _) ?_
  simp only [f49, real_b, real_i, real_c, chk_t, bnd_some, bnd_up, iff_t, iff_f, gd_t, gd_f, wd_b, wd_u, pick_t, pick_f, b_lss, b_leq, b_gtr, b_geq, b_eql, b_neq, b_seql, b_sneq, b_add, b_sub, u_not, nilC_ptr, fAddr_ptr, Nat.zero_add, extr0, extr1, extr2, lenStr, decide_true, decide_false, bt_tt, bt_tf, bt_ft, bt_ff, bt_bne, Bool.not_true, Bool.not_false, Int.reduceBEq, Int.reduceBNe, hV.lenS]
  exact q1.loop
/-- levels, of one that was just made. -/
theorem level_lit {R : Nat → Prop} {x : Lv} {H : Heap} {p : Value} {l : List Nat} {e : Int} (hS : St R H p l (.int .i64 e)) (hR : Rb R H) (hN : inI x.N) (hK : inI x.K) (hb : l.length + 18 ≤ 1000000000000) :
    ∃ H', Cl 49 [p, .slice (some ⟨H.n, 0, none⟩) 1 1] (H.push ⟨[.int .i64 x.N, .int .i64 x.K], 2, true⟩) p H' ∧ St R H' p (l ++ nbs [x.N, x.K]) (.int .i64 (eN e [x.N, x.K])) ∧ Keep R H H' := by
  let H1 := H.push ⟨[.int .i64 x.N, .int .i64 x.K], 2, true⟩
  have k1 : Keep (all H) H H1 := push_keep
  have hV : Sli (plus R H H1) H1 [x] (.slice (some ⟨H.n, 0, none⟩) 1 1) := by
    refine ⟨[.int .i64 x.N, .int .i64 x.K], .inr (.inr ⟨H.n, 0, none, 1, _, rfl, .inr ⟨Nat.le_refl _, by simp [H1, push_n]⟩, push_self, Nat.le_refl _, Nat.le_refl _, rfl⟩), RpL.single (rep_lv_mk hN hK)⟩
  obtain ⟨H', q1, q2, q3⟩ := levels_ok (hS.plus k1) (hR.plus k1.1) hV (by simpa using hb)
  exact ⟨H', q1, q2.more fun b hb _ => plus_le b hb, (k1.of_all hR).trans (q3.mono plus_le)⟩
theorem litL {H : Heap} {a b : Int} {z z' : Value} : bldS 2 1 [z, z'] [(0, 2, .agg #[.int .i64 a, .int .i64 b])] H = some (.slice (some ⟨H.n, 0, none⟩) 1 1, H.push ⟨[.int .i64 a, .int .i64 b], 2, true⟩) := by
  simp [bldS, rep, fillC, splice, newS, Value.cells, oneC, Value.oneCell']

theorem parts_loop {R : Nat → Prop} (xs : List Pd) (v : Value) (hn : xs.length < 1000000000000) : ∀ (k i : Nat), i + k = xs.length → ∀ (H : Heap) (p : Value) (l : List Nat) (e : Int), St R H p l (.int .i64 e) → Rb R H → Sli R H xs v → l.length + 9 * (pdsN (xs.drop i)).length ≤ 1000000000000 →
    ∃ H', Ev (fun n m => f37_L0 real (AC n) n m p v (.int .i64 (xs.length : Int)) (.int .i64 (i : Int)) H) (p, H') ∧ St R H' p (l ++ nbs (pdsN (xs.drop i))) (.int .i64 (eN e (pdsN (xs.drop i)))) ∧ Keep R H H' := by
  have hmb : mostBytes = 140737488355328 := rfl
  intro k
  induction k with
  | zero =>
    intro i hi H p l e hS hR hV hb
    have hd : xs.drop i = [] := List.drop_eq_nil_of_le (by omega)
    refine ⟨H, ?_, by simpa [hd, pdsN, nbs, eN] using hS, Keep.refl _ _⟩
    refine Ev.step (fun n m => f37_L0.eq_2 _ _ _ _ _ _ _ _ _) ?_
    simp only [real_b, real_i, real_c, chk_t, bnd_some, bnd_up, iff_t, iff_f, gd_t, gd_f, wd_b, wd_u, pick_t, pick_f, b_lss, b_leq, b_gtr, b_geq, b_eql, b_neq, b_seql, b_sneq, b_add, b_sub, u_not, nilC_ptr, fAddr_ptr, Nat.zero_add, extr0, extr1, extr2, lenStr, decide_true, decide_false, bt_tt, bt_tf, bt_ft, bt_ff, bt_bne, Bool.not_true, Bool.not_false, Int.reduceBEq, Int.reduceBNe, idx_ge (show xs.length ≤ i by omega)]
    exact Ev.pure _
  | succ k ih =>
    intro i hi H p l e hS hR hV hb
    have hlt : i < xs.length := by omega
    obtain ⟨x, hx, hd⟩ := drop_at hlt
    rw [hd, pdsN_cons] at hb
    have hpl : (pdN x).length = x.R.length + 4 := by simp only [pdN, List.length_append, List.length_cons, List.length_nil]; omega
    simp only [List.length_append, hpl] at hb
    obtain ⟨b, o, c, g1, g2, g3, g4, g5⟩ := hV.rec hx
    obtain ⟨w, rfl, hw, hr1, hr2, hr3⟩ := rep_pd g3
    let cs : List Value := [.int .i64 x.L, w, .int .i64 x.V.N, .int .i64 x.V.K]
    have hw1 : oneC w = true := by obtain ⟨_, h, _⟩ := hw; exact h.one
    have h1 : cs.all oneC = true := by simp [cs, hw1, oneC, Value.oneCell']; exact hw1
    let H1 := (H.push ⟨[.int .i64 0, .slice none 0 0, .int .i64 0, .int .i64 0], 1, true⟩).upd H.n (some ⟨cs, 1, true⟩)
    have k1 : Keep (all H) H H1 := push_upd (Rb.all H)
    have bx : Box (plus R H H1) H1 H.n cs := push_upd_box
    have st : stV 4 (ptr H.n 0) (.agg [.int .i64 x.L, w, .int .i64 x.V.N, .int .i64 x.V.K].toArray) (H.push ⟨[.int .i64 0, .slice none 0 0, .int .i64 0, .int .i64 0], 1, true⟩) = some (undef, H1) := push_st rfl rfl h1
    have hR1 : Rb (plus R H H1) H1 := hR.plus k1.1
    have hw2 : Sli (plus R H H1) H1 x.R w := hw.plus (k1.of_all hR)
    obtain ⟨H2, n1, n2, n3⟩ := numbers_lit (H := H1) [x.L, (x.R.length : Int)] (by simp) (hS.plus k1) hR1 (by simp only [List.length_cons, List.length_nil]; omega)
    have hl2 := nbs_len [x.L, (x.R.length : Int)]
    simp only [List.length_cons, List.length_nil] at hl2
    obtain ⟨H3, m1, m2, m3⟩ := numbers_ok (by omega) n2 (hR1.mono n3.1) ((hw2.keep n3).ints.1) (by simp only [List.length_append]; omega)
    have hl3 := nbs_len x.R
    obtain ⟨H4, r1, r2, r3⟩ := level_lit m2 (hR1.mono (n3.trans m3).1) hr2 hr3 (by simp only [List.length_append]; omega)
    have hl4 := nbs_len [x.V.N, x.V.K]
    simp only [List.length_cons, List.length_nil] at hl4
    have kR : Keep R H H4 := (k1.of_all hR).trans (((n3.trans m3).trans r3).mono plus_le)
    obtain ⟨H', s1, s2, s3⟩ := ih (i + 1) (by omega) H4 p _ _ (r2.more fun b hb _ => plus_le b hb) (hR.mono kR.1) (hV.keep kR) (by simp only [List.length_append]; omega)
    refine ⟨H', ?_, ?_, kR.trans s3⟩
    · refine Ev.step (fun n m => f37_L0.eq_2 _ _ _ _ _ _ _ _ _) ?_
      simp only [real_b, real_i, real_c, chk_t, bnd_some, bnd_up, iff_t, iff_f, gd_t, gd_f, wd_b, wd_u, pick_t, pick_f, b_lss, b_leq, b_gtr, b_geq, b_eql, b_neq, b_seql, b_sneq, b_add, b_sub, u_not, nilC_ptr, fAddr_ptr, Nat.zero_add, extr0, extr1, extr2, lenStr, decide_true, decide_false, bt_tt, bt_tf, bt_ft, bt_ff, bt_bne, Bool.not_true, Bool.not_false, Int.reduceBEq, Int.reduceBNe, idx_lt hlt, show iAddrS 4 v (.int .i64 i) = some (ptr b o) from g1, show ldA 4 (ptr b o) H = _ from g5, newV_box (show List.all [Value.int .i64 0, .slice none 0 0, .int .i64 0, .int .i64 0] oneC = true from rfl), st,
        bx.ld (k := 0) (v := .int .i64 x.L) rfl, bx.ld (k := 1) (v := w) rfl, hw2.lenS]
      rw [lit2]
      simp only [real_b, real_i, real_c, chk_t, bnd_some, bnd_up, iff_t, iff_f, gd_t, gd_f, wd_b, wd_u, pick_t, pick_f, b_lss, b_leq, b_gtr, b_geq, b_eql, b_neq, b_seql, b_sneq, b_add, b_sub, u_not, nilC_ptr, fAddr_ptr, Nat.zero_add, extr0, extr1, extr2, lenStr, decide_true, decide_false, bt_tt, bt_tf, bt_ft, bt_ff, bt_bne, Bool.not_true, Bool.not_false, Int.reduceBEq, Int.reduceBNe]
      refine Ev.callC n1 ?_
      simp only [real_b, real_i, real_c, chk_t, bnd_some, bnd_up, iff_t, iff_f, gd_t, gd_f, wd_b, wd_u, pick_t, pick_f, b_lss, b_leq, b_gtr, b_geq, b_eql, b_neq, b_seql, b_sneq, b_add, b_sub, u_not, nilC_ptr, fAddr_ptr, Nat.zero_add, extr0, extr1, extr2, lenStr, decide_true, decide_false, bt_tt, bt_tf, bt_ft, bt_ff, bt_bne, Bool.not_true, Bool.not_false, Int.reduceBEq, Int.reduceBNe, bx.blkP hR1 n3, Bool.true_and, (bx.keep n3).ld (k := 1) (v := w) rfl]
      refine Ev.callC m1 ?_
      simp only [real_b, real_i, real_c, chk_t, bnd_some, bnd_up, iff_t, iff_f, gd_t, gd_f, wd_b, wd_u, pick_t, pick_f, b_lss, b_leq, b_gtr, b_geq, b_eql, b_neq, b_seql, b_sneq, b_add, b_sub, u_not, nilC_ptr, fAddr_ptr, Nat.zero_add, extr0, extr1, extr2, lenStr, decide_true, decide_false, bt_tt, bt_tf, bt_ft, bt_ff, bt_bne, Bool.not_true, Bool.not_false, Int.reduceBEq, Int.reduceBNe, bx.blkP hR1 n3, (bx.keep n3).blk m3, Bool.true_and, ((bx.keep n3).keep m3).ldA (k := 2) (n := 2) (show 2 + 2 ≤ 4 by omega)]
      rw [show Value.agg (cut cs 2 2).toArray = .agg #[.int .i64 x.V.N, .int .i64 x.V.K] from rfl, litL]
      simp only [real_b, real_i, real_c, chk_t, bnd_some, bnd_up, iff_t, iff_f, gd_t, gd_f, wd_b, wd_u, pick_t, pick_f, b_lss, b_leq, b_gtr, b_geq, b_eql, b_neq, b_seql, b_sneq, b_add, b_sub, u_not, nilC_ptr, fAddr_ptr, Nat.zero_add, extr0, extr1, extr2, lenStr, decide_true, decide_false, bt_tt, bt_tf, bt_ft, bt_ff, bt_bne, Bool.not_true, Bool.not_false, Int.reduceBEq, Int.reduceBNe]
      refine Ev.callC r1 ?_
      simp only [real_b, real_i, real_c, chk_t, bnd_some, bnd_up, iff_t, iff_f, gd_t, gd_f, wd_b, wd_u, pick_t, pick_f, b_lss, b_leq, b_gtr, b_geq, b_eql, b_neq, b_seql, b_sneq, b_add, b_sub, u_not, nilC_ptr, fAddr_ptr, Nat.zero_add, extr0, extr1, extr2, lenStr, decide_true, decide_false, bt_tt, bt_tf, bt_ft, bt_ff, bt_bne, Bool.not_true, Bool.not_false, Int.reduceBEq, Int.reduceBNe, idx_up (show i < 9223372036854775807 by omega)]
      exact s1
    · rw [hd, pdsN_cons]
      have e1 : nbs (pdN x ++ pdsN (xs.drop (i + 1))) = nbs [x.L, (x.R.length : Int)] ++ nbs x.R ++ nbs [x.V.N, x.V.K] ++ nbs (pdsN (xs.drop (i + 1))) := by simp only [pdN, nbs_app]
      have e2 : eN e (pdN x ++ pdsN (xs.drop (i + 1))) = eN (eN (eN (eN e [x.L, (x.R.length : Int)]) x.R) [x.V.N, x.V.K]) (pdsN (xs.drop (i + 1))) := by simp only [pdN, eN_append]
      rw [e1, e2, ← List.append_assoc, ← List.append_assoc, ← List.append_assoc]
      exact s2
end Go.Eng
