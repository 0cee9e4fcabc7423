/- Keys of scanners. -/
import Derived.Test.YtjnpiaigiljpjaaKJ
import Derived.Test.YtjnpiaigiljpjaaEngW
import Derived.Laws.Strings
import Derived.WideShapes
set_option linter.unusedVariables false
set_option linter.unusedSimpArgs false
namespace Go.Eng
open Go Go.Proofs

theorem bt_tt : (true == true) = true := of_eq_true (eq_self _)
theorem bt_tf : (true == false) = false := of_eq_true (eq_self _)
theorem bt_ft : (false == true) = false := of_eq_true (eq_self _)
theorem bt_ff : (false == false) = true := of_eq_true (eq_self _)
theorem bt_bne (a : Int) : (a != a) = false := by simp
theorem extr2 {a b c : Value} {H : Heap} : extr 2 (.tuple #[a, b, c]) H = some (c, H) := nr _
theorem Cl.ev {f : FuncId} {args : List Value} {H H' : Heap} {v v' : Value} (h : Cl f args H v H') (e : v = v') : Cl f args H v' H' := e ▸ h

/-- What a list's texts make. -/
def tbs (l : List ByteArray) : List Nat := l.flatMap tb
theorem tb_len (s : ByteArray) : (tb s).length ≤ 9 + s.size := by
  have := nb_len (s.size : Int)
  simp only [tb, List.length_append, sb_len]; omega
def vol (l : List ByteArray) : Nat := (l.map fun s => 9 + s.size).sum
theorem tbs_len (l : List ByteArray) : (tbs l).length ≤ vol l := by
  induction l with
  | nil => simp [tbs]
  | cons s l ih => have := tb_len s; simp only [tbs, vol, List.flatMap_cons, List.length_append, List.map_cons, List.sum_cons] at ih ⊢; omega
theorem vol_cons (s : ByteArray) (l : List ByteArray) : vol (s :: l) = 9 + s.size + vol l := by simp [vol]
theorem vol_len (l : List ByteArray) : l.length ≤ vol l := by
  induction l with
  | nil => simp
  | cons s l ih => rw [vol_cons]; simp; omega

theorem idx_lt {n i : Nat} (h : i < n) : ((i : Int) < (n : Int)) = True := by simp; omega
theorem idx_ge {n i : Nat} (h : n ≤ i) : ((i : Int) < (n : Int)) = False := by simp; omega
theorem idx_up {i : Nat} (h : i < 9223372036854775807) : IntKind.i64.wrap ((i : Int) + 1) = ((i + 1 : Nat) : Int) := by rw [wrap_i64 (by omega) (by omega)]; omega

theorem Sli.str {R : Nat → Prop} {H : Heap} {xs : List ByteArray} {v : Value} (h : Sli R H xs v) {i : Nat} {s : ByteArray} (hs : xs[i]? = some s) : ∃ p, iAddrS 1 v (.int .i64 i) = some p ∧ ldC p H = some (.string s, H) := by
  obtain ⟨b, o, c, g1, g2, g3, g4, g5⟩ := h.at hs
  have hc : c = [.string s] := g3
  subst hc
  exact ⟨_, g1, g4 0 _ rfl⟩

def skey (l : List ByteArray) : List Nat := nb 2 ++ nb l.length ++ tbs l

theorem scan_loop {R : Nat → Prop} (xs : List ByteArray) (v : Value) (hn : xs.length < 9223372036854775807) : ∀ (k i : Nat), i + k = xs.length → ∀ (H : Heap) (p : Value) (l : List Nat), St R H p l (.int .i64 0) → Rb R H → Sli R H xs v → l.length + vol (xs.drop i) ≤ 1000000000000 →
    ∃ w H', Ev (fun n m => f13_L0 real (AC n) n m p v (.int .i64 (xs.length : Int)) (.int .i64 (i : Int)) H) (.tuple #[w, .int .i64 (endE 0 (l ++ tbs (xs.drop i)))], H') ∧ Acc R H' 1 w (endL 0 (l ++ tbs (xs.drop i))).length (B (endL 0 (l ++ tbs (xs.drop i)))) ∧ Keep R H H' := by
  intro k
  induction k with
  | zero =>
    intro i hi H p l hS hR hV hb
    have hd : xs.drop i = [] := List.drop_eq_nil_of_le (by omega)
    rw [hd]
    have e0 : l ++ tbs [] = l := by simp [tbs]
    rw [e0]
    obtain ⟨w, e1, e2⟩ := ends_ok hS hR (by omega)
    refine ⟨w, H, ?_, e2, Keep.refl _ _⟩
    refine Ev.step (fun n m => f13_L0.eq_2 _ _ _ _ _ _ _ _ _) ?_
    simp only [real_b, real_i, real_c, chk_t, bnd_some, bnd_up, iff_t, iff_f, gd_t, gd_f, wd_b, wd_u, pick_t, pick_f, b_lss, b_leq, b_gtr, b_geq, b_eql, b_neq, b_seql, b_sneq, b_add, b_sub, u_not, nilC_ptr, fAddr_ptr, Nat.zero_add, extr0, extr1, extr2, lenStr, decide_true, decide_false, bt_tt, bt_tf, bt_ft, bt_ff, bt_bne, Bool.not_true, Bool.not_false, Int.reduceBEq, Int.reduceBNe, idx_ge (show xs.length ≤ i by omega)]
    refine Ev.callC e1 ?_
    simp only [real_b, real_i, real_c, chk_t, bnd_some, bnd_up, iff_t, iff_f, gd_t, gd_f, wd_b, wd_u, pick_t, pick_f, b_lss, b_leq, b_gtr, b_geq, b_eql, b_neq, b_seql, b_sneq, b_add, b_sub, u_not, nilC_ptr, fAddr_ptr, Nat.zero_add, extr0, extr1, extr2, lenStr, decide_true, decide_false, bt_tt, bt_tf, bt_ft, bt_ff, bt_bne, Bool.not_true, Bool.not_false, Int.reduceBEq, Int.reduceBNe]
    exact Ev.pure _
  | succ k ih =>
    intro i hi H p l hS hR hV hb
    have hlt : i < xs.length := by omega
    obtain ⟨s, hs, hd⟩ := drop_at hlt
    rw [hd] at hb ⊢
    rw [vol_cons] at hb
    obtain ⟨q, q1, q2⟩ := hV.str hs
    obtain ⟨H1, t1, t2, t3⟩ := text_ok (s := s) hS hR (by omega)
    have hl := tb_len s
    obtain ⟨w, H', g1, g2, g3⟩ := ih (i + 1) (by omega) H1 p _ t2 (hR.mono t3.1) (hV.keep t3) (by simp only [List.length_append]; omega)
    have e0 : l ++ tbs (s :: xs.drop (i + 1)) = l ++ tb s ++ tbs (xs.drop (i + 1)) := by simp [tbs]
    rw [e0]
    refine ⟨w, H', ?_, g2, t3.trans g3⟩
    refine Ev.step (fun n m => f13_L0.eq_2 _ _ _ _ _ _ _ _ _) ?_
    simp only [real_b, real_i, real_c, chk_t, bnd_some, bnd_up, iff_t, iff_f, gd_t, gd_f, wd_b, wd_u, pick_t, pick_f, b_lss, b_leq, b_gtr, b_geq, b_eql, b_neq, b_seql, b_sneq, b_add, b_sub, u_not, nilC_ptr, fAddr_ptr, Nat.zero_add, extr0, extr1, extr2, lenStr, decide_true, decide_false, bt_tt, bt_tf, bt_ft, bt_ff, bt_bne, Bool.not_true, Bool.not_false, Int.reduceBEq, Int.reduceBNe, idx_lt hlt, q1, q2]
    refine Ev.callC t1 ?_
    simp only [real_b, real_i, real_c, chk_t, bnd_some, bnd_up, iff_t, iff_f, gd_t, gd_f, wd_b, wd_u, pick_t, pick_f, b_lss, b_leq, b_gtr, b_geq, b_eql, b_neq, b_seql, b_sneq, b_add, b_sub, u_not, nilC_ptr, fAddr_ptr, Nat.zero_add, extr0, extr1, extr2, lenStr, decide_true, decide_false, bt_tt, bt_tf, bt_ft, bt_ff, bt_bne, Bool.not_true, Bool.not_false, Int.reduceBEq, Int.reduceBNe, idx_up (show i < 9223372036854775807 by omega)]
    exact g1
theorem scan_ok {H : Heap} {xs : List ByteArray} {v : Value} (h : Sli (all H) H xs v) (hb : vol xs ≤ 100000000000) :
    ∃ w H', Cl 13 [v] H (.tuple #[w, .int .i64 (endE 0 (skey xs))]) H' ∧ Acc (all H) H' 1 w (endL 0 (skey xs)).length (B (endL 0 (skey xs))) ∧ Keep (all H) H H' := by
  have hvl := vol_len xs
  obtain ⟨p, H1, b1, b2, b3⟩ := begin_ok H 2
  have h9 := nb_len 2
  have he : eN 0 [2] = 0 := by decide
  rw [he] at b2
  obtain ⟨H2, n1, n2, n3⟩ := numbers_lit [(xs.length : Int)] (by simp) b2 ((Rb.all H).mono b3.1) (by simp; unfold mostBytes; omega)
  have hok : okN (xs.length : Int) = true := by simp [okN]; omega
  have he : eN 0 [(xs.length : Int)] = 0 := by simp [eN, hok]
  rw [he] at n2
  have hnb := nb_len (xs.length : Int)
  have e2 : nb 2 ++ nbs [(xs.length : Int)] = nb 2 ++ nb xs.length := by simp [nbs]
  rw [e2] at n2
  obtain ⟨w, H', g1, g2, g3⟩ := scan_loop xs v (by omega) xs.length 0 (by omega) H2 p _ n2 ((Rb.all H).mono (b3.trans n3).1) (h.keep (b3.trans n3)) (by simp only [List.length_append, List.drop_zero]; omega)
  refine ⟨w, H', ?_, by simpa [skey] using g2, (b3.trans n3).trans g3⟩
  refine Ev.enter (fun n => f13_eq rfl n _ _) ?_
  simp only [f13, real_b, real_i, real_c, chk_t, bnd_some, bnd_up, iff_t, iff_f, gd_t, gd_f, wd_b, wd_u, pick_t, pick_f, b_lss, b_leq, b_gtr, b_geq, b_eql, b_neq, b_seql, b_sneq, b_add, b_sub, u_not, nilC_ptr, fAddr_ptr, Nat.zero_add, extr0, extr1, extr2, lenStr, decide_true, decide_false, bt_tt, bt_tf, bt_ft, bt_ff, bt_bne, Bool.not_true, Bool.not_false, Int.reduceBEq, Int.reduceBNe]
  refine Ev.callC b1 ?_
  simp only [h.lenS, real_b, real_i, real_c, chk_t, bnd_some, bnd_up, iff_t, iff_f, gd_t, gd_f, wd_b, wd_u, pick_t, pick_f, b_lss, b_leq, b_gtr, b_geq, b_eql, b_neq, b_seql, b_sneq, b_add, b_sub, u_not, nilC_ptr, fAddr_ptr, Nat.zero_add, extr0, extr1, extr2, lenStr, decide_true, decide_false, bt_tt, bt_tf, bt_ft, bt_ff, bt_bne, Bool.not_true, Bool.not_false, Int.reduceBEq, Int.reduceBNe]
  rw [bld1 rfl rfl]
  simp only [real_b, real_i, real_c, chk_t, bnd_some, bnd_up, iff_t, iff_f, gd_t, gd_f, wd_b, wd_u, pick_t, pick_f, b_lss, b_leq, b_gtr, b_geq, b_eql, b_neq, b_seql, b_sneq, b_add, b_sub, u_not, nilC_ptr, fAddr_ptr, Nat.zero_add, extr0, extr1, extr2, lenStr, decide_true, decide_false, bt_tt, bt_tf, bt_ft, bt_ff, bt_bne, Bool.not_true, Bool.not_false, Int.reduceBEq, Int.reduceBNe]
  refine Ev.callC n1 ?_
  exact g1.loop

theorem rscan_loop {R : Nat → Prop} (xs : List ByteArray) (v : Value) (hn : xs.length < 9223372036854775807) : ∀ (k i : Nat), i + k = xs.length → ∀ (H : Heap) (p : Value) (l : List Nat), St R H p l (.bool false) → Rb R H → Sli R H xs v → l.length + vol (xs.drop i) ≤ 1000000000000 →
    ∃ w H', Ev (fun n m => f14_L0 real (AC n) n m v p (.int .i64 (i : Int)) H) (.tuple #[w, .int .i64 (endE 0 (l ++ tbs (xs.drop i)))], H') ∧ Acc R H' 1 w (endL 0 (l ++ tbs (xs.drop i))).length (B (endL 0 (l ++ tbs (xs.drop i)))) ∧ Keep R H H' := by
  intro k
  induction k with
  | zero =>
    intro i hi H p l hS hR hV hb
    have hd : xs.drop i = [] := List.drop_eq_nil_of_le (by omega)
    rw [hd]
    have e0 : l ++ tbs [] = l := by simp [tbs]
    rw [e0]
    obtain ⟨w, e1, e2⟩ := rends_ok hS hR (by omega)
    simp only [Bool.false_eq_true, if_false] at e1 e2
    refine ⟨w, H, ?_, e2, Keep.refl _ _⟩
    refine Ev.step (fun n m => f14_L0.eq_2 _ _ _ _ _ _ _ _) ?_
    simp only [real_b, real_i, real_c, chk_t, bnd_some, bnd_up, iff_t, iff_f, gd_t, gd_f, wd_b, wd_u, pick_t, pick_f, b_lss, b_leq, b_gtr, b_geq, b_eql, b_neq, b_seql, b_sneq, b_add, b_sub, u_not, nilC_ptr, fAddr_ptr, Nat.zero_add, extr0, extr1, extr2, lenStr, decide_true, decide_false, bt_tt, bt_tf, bt_ft, bt_ff, bt_bne, Bool.not_true, Bool.not_false, Int.reduceBEq, Int.reduceBNe, hV.lenS, idx_ge (show xs.length ≤ i by omega)]
    refine Ev.callC e1 ?_
    simp only [real_b, real_i, real_c, chk_t, bnd_some, bnd_up, iff_t, iff_f, gd_t, gd_f, wd_b, wd_u, pick_t, pick_f, b_lss, b_leq, b_gtr, b_geq, b_eql, b_neq, b_seql, b_sneq, b_add, b_sub, u_not, nilC_ptr, fAddr_ptr, Nat.zero_add, extr0, extr1, extr2, lenStr, decide_true, decide_false, bt_tt, bt_tf, bt_ft, bt_ff, bt_bne, Bool.not_true, Bool.not_false, Int.reduceBEq, Int.reduceBNe]
    exact Ev.pure _
  | succ k ih =>
    intro i hi H p l hS hR hV hb
    have hlt : i < xs.length := by omega
    obtain ⟨s, hs, hd⟩ := drop_at hlt
    rw [hd] at hb ⊢
    rw [vol_cons] at hb
    obtain ⟨q, q1, q2⟩ := hV.str hs
    obtain ⟨H1, t1, t2, t3⟩ := rtext_ok (s := s) hS hR (by omega)
    have hl := tb_len s
    obtain ⟨w, H', g1, g2, g3⟩ := ih (i + 1) (by omega) H1 p _ t2 (hR.mono t3.1) (hV.keep t3) (by simp only [List.length_append]; omega)
    have e0 : l ++ tbs (s :: xs.drop (i + 1)) = l ++ tb s ++ tbs (xs.drop (i + 1)) := by simp [tbs]
    rw [e0]
    refine ⟨w, H', ?_, g2, t3.trans g3⟩
    refine Ev.step (fun n m => f14_L0.eq_2 _ _ _ _ _ _ _ _) ?_
    simp only [real_b, real_i, real_c, chk_t, bnd_some, bnd_up, iff_t, iff_f, gd_t, gd_f, wd_b, wd_u, pick_t, pick_f, b_lss, b_leq, b_gtr, b_geq, b_eql, b_neq, b_seql, b_sneq, b_add, b_sub, u_not, nilC_ptr, fAddr_ptr, Nat.zero_add, extr0, extr1, extr2, lenStr, decide_true, decide_false, bt_tt, bt_tf, bt_ft, bt_ff, bt_bne, Bool.not_true, Bool.not_false, Int.reduceBEq, Int.reduceBNe, hV.lenS, idx_lt hlt, q1, q2]
    refine Ev.callC t1 ?_
    simp only [real_b, real_i, real_c, chk_t, bnd_some, bnd_up, iff_t, iff_f, gd_t, gd_f, wd_b, wd_u, pick_t, pick_f, b_lss, b_leq, b_gtr, b_geq, b_eql, b_neq, b_seql, b_sneq, b_add, b_sub, u_not, nilC_ptr, fAddr_ptr, Nat.zero_add, extr0, extr1, extr2, lenStr, decide_true, decide_false, bt_tt, bt_tf, bt_ft, bt_ff, bt_bne, Bool.not_true, Bool.not_false, Int.reduceBEq, Int.reduceBNe, idx_up (show i < 9223372036854775807 by omega)]
    exact g1
theorem rscan_ok {H : Heap} {xs : List ByteArray} {v : Value} (h : Sli (all H) H xs v) (hb : vol xs ≤ 100000000000) :
    ∃ w H', Cl 14 [v] H (.tuple #[w, .int .i64 (endE 0 (skey xs))]) H' ∧ Acc (all H) H' 1 w (endL 0 (skey xs)).length (B (endL 0 (skey xs))) ∧ Keep (all H) H H' := by
  have hmb : mostBytes = 140737488355328 := rfl
  have hvl := vol_len xs
  obtain ⟨H0, b0, b1, b2, b3⟩ := rbegin H
  obtain ⟨H1, n1, n2, n3⟩ := number_ok (x := 2) b2 ((Rb.all H).mono b3.1) (by simp; omega)
  have h9 := nb_len 2
  have he : (false || !okN 2) = false := by decide
  rw [he, List.nil_append] at n2
  obtain ⟨H2, m1, m2, m3⟩ := number_ok (x := xs.length) n2 ((Rb.all H).mono (b3.trans n3).1) (by omega)
  have hok : okN (xs.length : Int) = true := by simp [okN]; omega
  rw [hok] at m2
  have hnb := nb_len (xs.length : Int)
  obtain ⟨w, H', g1, g2, g3⟩ := rscan_loop xs v (by omega) xs.length 0 (by omega) H2 _ _ m2 ((Rb.all H).mono ((b3.trans n3).trans m3).1) (h.keep ((b3.trans n3).trans m3)) (by simp only [List.length_append, List.drop_zero]; omega)
  refine ⟨w, H', ?_, by simpa [skey] using g2, ((b3.trans n3).trans m3).trans g3⟩
  refine Ev.enter (fun n => f14_eq rfl n _ _) ?_
  simp only [f14, real_b, real_i, real_c, chk_t, bnd_some, bnd_up, iff_t, iff_f, gd_t, gd_f, wd_b, wd_u, pick_t, pick_f, b_lss, b_leq, b_gtr, b_geq, b_eql, b_neq, b_seql, b_sneq, b_add, b_sub, u_not, nilC_ptr, fAddr_ptr, Nat.zero_add, extr0, extr1, extr2, lenStr, decide_true, decide_false, bt_tt, bt_tf, bt_ft, bt_ff, bt_bne, Bool.not_true, Bool.not_false, Int.reduceBEq, Int.reduceBNe, b0, b1]
  refine Ev.callC n1 ?_
  simp only [h.lenS, real_b, real_i, real_c, chk_t, bnd_some, bnd_up, iff_t, iff_f, gd_t, gd_f, wd_b, wd_u, pick_t, pick_f, b_lss, b_leq, b_gtr, b_geq, b_eql, b_neq, b_seql, b_sneq, b_add, b_sub, u_not, nilC_ptr, fAddr_ptr, Nat.zero_add, extr0, extr1, extr2, lenStr, decide_true, decide_false, bt_tt, bt_tf, bt_ft, bt_ff, bt_bne, Bool.not_true, Bool.not_false, Int.reduceBEq, Int.reduceBNe]
  refine Ev.callC m1 ?_
  exact g1.loop

/-! ### two lists -/
theorem seq_inj {a b : ByteArray} (h : a.toList = b.toList) : a = b := by
  rw [ByteArray.toList_eq, ByteArray.toList_eq] at h
  exact WideShapes.bytes_inj h
theorem same_loop {R : Nat → Prop} {H : Heap} {v1 v2 : Value} {a b : List ByteArray} (h1 : Sli R H a v1) (h2 : Sli R H b v2) (hl : a.length = b.length) (hb : a.length < 9223372036854775807) :
    ∀ (k i : Nat), i + k = a.length → Ev (fun n m => f19_L0 real (AC n) n m v1 v2 (.int .i64 (i : Int)) H) (.bool (decide (a.drop i = b.drop i)), H) := by
  intro k
  induction k with
  | zero =>
    intro i hi
    refine Ev.step (fun n m => f19_L0.eq_2 _ _ _ _ _ _ _ _) ?_
    have e : decide (a.drop i = b.drop i) = true := by
      rw [List.drop_eq_nil_of_le (by omega), List.drop_eq_nil_of_le (by omega)]; simp
    simp only [real_b, real_i, real_c, chk_t, bnd_some, bnd_up, iff_t, iff_f, gd_t, gd_f, wd_b, wd_u, pick_t, pick_f, b_lss, b_leq, b_gtr, b_geq, b_eql, b_neq, b_seql, b_sneq, b_add, b_sub, u_not, nilC_ptr, fAddr_ptr, Nat.zero_add, extr0, extr1, extr2, lenStr, decide_true, decide_false, bt_tt, bt_tf, bt_ft, bt_ff, bt_bne, Bool.not_true, Bool.not_false, Int.reduceBEq, Int.reduceBNe, h1.lenS, idx_ge (show a.length ≤ i by omega), e]
    exact Ev.pure _
  | succ k ih =>
    intro i hi
    obtain ⟨x, x1, x2⟩ := drop_at (l := a) (i := i) (by omega)
    obtain ⟨y, y1, y2⟩ := drop_at (l := b) (i := i) (by omega)
    obtain ⟨p, p1, p2⟩ := h1.str x1
    obtain ⟨q, q1, q2⟩ := h2.str y1
    refine Ev.step (fun n m => f19_L0.eq_2 _ _ _ _ _ _ _ _) ?_
    by_cases hxy : x = y
    · subst hxy
      have e : (!(x.toList == x.toList)) = false := by simp
      simp only [real_b, real_i, real_c, chk_t, bnd_some, bnd_up, iff_t, iff_f, gd_t, gd_f, wd_b, wd_u, pick_t, pick_f, b_lss, b_leq, b_gtr, b_geq, b_eql, b_neq, b_seql, b_sneq, b_add, b_sub, u_not, nilC_ptr, fAddr_ptr, Nat.zero_add, extr0, extr1, extr2, lenStr, decide_true, decide_false, bt_tt, bt_tf, bt_ft, bt_ff, bt_bne, Bool.not_true, Bool.not_false, Int.reduceBEq, Int.reduceBNe, h1.lenS, idx_lt (show i < a.length by omega), p1, p2, q1, q2, e, idx_up (show i < 9223372036854775807 by omega)]
      have := ih (i + 1) (by omega)
      rw [x2, y2]
      simpa using this
    · have hn : (x.toList == y.toList) = false := by
        simp only [beq_eq_false_iff_ne, ne_eq]
        exact fun h => hxy (seq_inj h)
      simp only [real_b, real_i, real_c, chk_t, bnd_some, bnd_up, iff_t, iff_f, gd_t, gd_f, wd_b, wd_u, pick_t, pick_f, b_lss, b_leq, b_gtr, b_geq, b_eql, b_neq, b_seql, b_sneq, b_add, b_sub, u_not, nilC_ptr, fAddr_ptr, Nat.zero_add, extr0, extr1, extr2, lenStr, decide_true, decide_false, bt_tt, bt_tf, bt_ft, bt_ff, bt_bne, Bool.not_true, Bool.not_false, Int.reduceBEq, Int.reduceBNe, h1.lenS, idx_lt (show i < a.length by omega), p1, p2, q1, q2, hn]
      rw [x2, y2]
      have : decide (x :: a.drop (i + 1) = y :: b.drop (i + 1)) = false := by simp [hxy]
      rw [this]
      exact Ev.pure _
theorem same_ok {R : Nat → Prop} {H : Heap} {v1 v2 : Value} {a b : List ByteArray} (h1 : Sli R H a v1) (h2 : Sli R H b v2) (hb : a.length < 9223372036854775807) : Cl 19 [v1, v2] H (.bool (decide (a = b))) H := by
  refine Ev.enter (fun n => f19_eq rfl n _ _ _) ?_
  by_cases hl : a.length = b.length
  · have hn : ((a.length : Int) != (b.length : Int)) = false := by simp; omega
    simp only [f19, real_b, real_i, real_c, chk_t, bnd_some, bnd_up, iff_t, iff_f, gd_t, gd_f, wd_b, wd_u, pick_t, pick_f, b_lss, b_leq, b_gtr, b_geq, b_eql, b_neq, b_seql, b_sneq, b_add, b_sub, u_not, nilC_ptr, fAddr_ptr, Nat.zero_add, extr0, extr1, extr2, lenStr, decide_true, decide_false, bt_tt, bt_tf, bt_ft, bt_ff, bt_bne, Bool.not_true, Bool.not_false, Int.reduceBEq, Int.reduceBNe, h1.lenS, h2.lenS, hn]
    have := (same_loop h1 h2 hl hb a.length 0 (by omega)).loop
    simpa using this
  · have hn : ((a.length : Int) != (b.length : Int)) = true := by simp; omega
    simp only [f19, real_b, real_i, real_c, chk_t, bnd_some, bnd_up, iff_t, iff_f, gd_t, gd_f, wd_b, wd_u, pick_t, pick_f, b_lss, b_leq, b_gtr, b_geq, b_eql, b_neq, b_seql, b_sneq, b_add, b_sub, u_not, nilC_ptr, fAddr_ptr, Nat.zero_add, extr0, extr1, extr2, lenStr, decide_true, decide_false, bt_tt, bt_tf, bt_ft, bt_ff, bt_bne, Bool.not_true, Bool.not_false, Int.reduceBEq, Int.reduceBNe, h1.lenS, h2.lenS, hn]
    have : decide (a = b) = false := by
      simp; intro h; exact hl (by rw [h])
    rw [this]
    exact Ev.pure _

theorem tb_pref {s t : ByteArray} (hs : s.size ≤ 9007199254740991) (ht : t.size ≤ 9007199254740991) {a b : List Nat} (h : tb s ++ a = tb t ++ b) : s = t ∧ a = b := by
  simp only [tb, List.append_assoc] at h
  obtain ⟨h1, h2⟩ := nb_pref hs ht h
  have h3 := List.append_inj h2 (by rw [sb_len, sb_len, h1])
  refine ⟨?_, h3.2⟩
  have : s.data.toList = t.data.toList := by
    have h4 := h3.1
    unfold sb at h4
    have : ∀ (l m : List UInt8), l.map UInt8.toNat = m.map UInt8.toNat → l = m := by
      intro l
      induction l with
      | nil => intro m h; cases m with | nil => rfl | cons a m => cases h
      | cons x l ih =>
        intro m h
        cases m with
        | nil => cases h
        | cons y m =>
          simp only [List.map_cons, List.cons.injEq] at h
          rw [UInt8.toNat_inj.1 h.1, ih m h.2]
    exact this _ _ h4
  exact WideShapes.bytes_inj this
theorem tbs_pref : ∀ {xs ys : List ByteArray}, xs.length = ys.length → (∀ s ∈ xs, s.size ≤ 9007199254740991) → (∀ s ∈ ys, s.size ≤ 9007199254740991) → ∀ {a b : List Nat}, tbs xs ++ a = tbs ys ++ b → xs = ys ∧ a = b
  | [], [], _, _, _, a, b, h => ⟨rfl, by simpa [tbs] using h⟩
  | [], y :: ys, hl, _, _, _, _, _ => by simp at hl
  | x :: xs, [], hl, _, _, _, _, _ => by simp at hl
  | x :: xs, y :: ys, hl, hx, hy, a, b, h => by
    have e : ∀ (s : ByteArray) l c, tbs (s :: l) ++ c = tb s ++ (tbs l ++ c) := by intro s l c; simp [tbs]
    rw [e, e] at h
    obtain ⟨h1, h2⟩ := tb_pref (hx x (by simp)) (hy y (by simp)) h
    obtain ⟨h3, h4⟩ := tbs_pref (by simpa using hl) (fun s hs => hx s (by simp [hs])) (fun s hs => hy s (by simp [hs])) h2
    exact ⟨by rw [h1, h3], h4⟩
theorem vol_mem {xs : List ByteArray} : ∀ {s : ByteArray}, s ∈ xs → s.size ≤ vol xs := by
  induction xs with
  | nil => intro s h; cases h
  | cons x xs ih =>
    intro s h
    rw [vol_cons]
    rcases List.mem_cons.1 h with rfl | h
    · omega
    · have := ih h; omega
theorem skey_inj {a b : List ByteArray} (ha : vol a ≤ 100000000000) (hb : vol b ≤ 100000000000) (h : skey a = skey b) : a = b := by
  have la := vol_len a
  have lb := vol_len b
  simp only [skey, List.append_assoc] at h
  obtain ⟨h1, h2⟩ := nb_pref (by omega) (by omega) (List.append_cancel_left h)
  have h3 : tbs a ++ [] = tbs b ++ [] := by simpa using h2
  exact (tbs_pref h1 (fun s hs => by have := vol_mem hs; omega) (fun s hs => by have := vol_mem hs; omega) h3).1
theorem skey_len {a : List ByteArray} : (skey a).length ≤ vol a + 18 := by
  have h1 := nb_len 2
  have h2 := nb_len (a.length : Int)
  have h3 := tbs_len a
  simp only [skey, List.length_append]
  omega
theorem vnum_byte : ∀ (n x : Nat), x ∈ vnum n → x < 256 := by
  intro n
  induction n using Nat.strongRecOn with
  | _ n ih =>
    intro x hx
    rw [vnum] at hx
    split at hx
    · simp only [List.mem_singleton] at hx; omega
    · rcases List.mem_cons.1 hx with rfl | hx
      · omega
      · exact ih _ (by omega) x hx
theorem nb_byte (n : Int) : ∀ x ∈ nb n, x < 256 := fun x hx => by
  unfold nb at hx
  split at hx
  · exact vnum_byte _ _ hx
  · cases hx
theorem sb_byte (s : ByteArray) : ∀ x ∈ sb s, x < 256 := fun x hx => by
  unfold sb at hx
  obtain ⟨y, _, rfl⟩ := List.mem_map.1 hx
  exact y.toNat_lt
theorem tb_byte (s : ByteArray) : ∀ x ∈ tb s, x < 256 := fun x hx => by
  rcases List.mem_append.1 hx with h | h
  · exact nb_byte _ x h
  · exact sb_byte _ x h
theorem tbs_byte (l : List ByteArray) : ∀ x ∈ tbs l, x < 256 := fun x hx => by
  obtain ⟨s, _, h⟩ := List.mem_flatMap.1 hx
  exact tb_byte s x h
theorem skey_byte {l : List ByteArray} : ∀ x ∈ skey l, x < 256 := fun x hx => by
  rcases List.mem_append.1 hx with h | h
  · rcases List.mem_append.1 h with h | h
    · exact nb_byte _ x h
    · exact nb_byte _ x h
  · exact tbs_byte _ x h
theorem fkey_byte {d : List Nat} (hd : ∀ x ∈ d, x < 256) : ∀ x ∈ fkey d, x < 256 := fun x hx => by
  rcases List.mem_append.1 hx with h | h
  · exact nb_byte _ x h
  · exact tb_byte _ x h
theorem endE_or (l : List Nat) : endE 0 l = 0 ∧ endL 0 l = l ∨ endE 0 l = 5 := by
  unfold endE endL
  by_cases h : 65536 < l.length <;> simp [h]
theorem b_eqB {P : Program} {t : TypeId} {a b : Bool} (h : P.underlying t = some .bool) : binB P .eql t (.bool a) (.bool b) = some (.bool (a == b)) := b_beql h
theorem dec_iff {p q : Prop} [Decidable p] [Decidable q] (h : p ↔ q) : (decide p == decide q) = true := by
  by_cases hp : p
  · simp [hp, h.1 hp]
  · have : ¬ q := fun hq => hp (h.2 hq)
    simp [hp, this]

theorem patterns_law {H : Heap} {v1 v2 : Value} {a b : List ByteArray} (h1 : Sli (all H) H a v1) (h2 : Sli (all H) H b v2) (la : vol a ≤ 100000000000) (lb : vol b ≤ 100000000000) :
    ∃ H', Cl 5 [v1, v2] H (.bool true) H' := by
  obtain ⟨w1, H1, f1, f2, f3⟩ := scan_ok h1 la
  obtain ⟨w2, H2, g1, g2, g3⟩ := scan_ok ((h2.keep f3).mono fun b hb => Nat.lt_of_lt_of_le hb f3.1) lb
  have hva := vol_len a
  have lka := skey_len (a := a)
  refine ⟨H2, ?_⟩
  refine Ev.enter (fun n => f5_eq rfl n _ _ _) ?_
  simp only [f5, real_b, real_i, real_c, chk_t, bnd_some, bnd_up, iff_t, iff_f, gd_t, gd_f, wd_b, wd_u, pick_t, pick_f, b_lss, b_leq, b_gtr, b_geq, b_eql, b_neq, b_seql, b_sneq, b_add, b_sub, u_not, nilC_ptr, fAddr_ptr, Nat.zero_add, extr0, extr1, extr2, lenStr, decide_true, decide_false, bt_tt, bt_tf, bt_ft, bt_ff, bt_bne, Bool.not_true, Bool.not_false, Int.reduceBEq, Int.reduceBNe]
  refine Ev.callC f1 ?_
  simp only [real_b, real_i, real_c, chk_t, bnd_some, bnd_up, iff_t, iff_f, gd_t, gd_f, wd_b, wd_u, pick_t, pick_f, b_lss, b_leq, b_gtr, b_geq, b_eql, b_neq, b_seql, b_sneq, b_add, b_sub, u_not, nilC_ptr, fAddr_ptr, Nat.zero_add, extr0, extr1, extr2, lenStr, decide_true, decide_false, bt_tt, bt_tf, bt_ft, bt_ff, bt_bne, Bool.not_true, Bool.not_false, Int.reduceBEq, Int.reduceBNe]
  refine Ev.callC g1 ?_
  rcases endE_or (skey a) with ⟨ea, ka⟩ | ea
  · rcases endE_or (skey b) with ⟨eb, kb⟩ | eb
    · rw [ka] at f2
      rw [kb] at g2
      simp only [real_b, real_i, real_c, chk_t, bnd_some, bnd_up, iff_t, iff_f, gd_t, gd_f, wd_b, wd_u, pick_t, pick_f, b_lss, b_leq, b_gtr, b_geq, b_eql, b_neq, b_seql, b_sneq, b_add, b_sub, u_not, nilC_ptr, fAddr_ptr, Nat.zero_add, extr0, extr1, extr2, lenStr, decide_true, decide_false, bt_tt, bt_tf, bt_ft, bt_ff, bt_bne, Bool.not_true, Bool.not_false, Int.reduceBEq, Int.reduceBNe, ea, eb]
      have s1 : Sl (all H2) H2 1 w1 (skey a).length (B (skey a)) := (f2.sl.keep g3).mono fun b hb => Nat.lt_of_lt_of_le hb g3.1
      refine Ev.callC (eq_ok s1 g2.sl (by omega)) ?_
      have t1 : Sli (all H) H2 a v1 := h1.keep (f3.trans (g3.mono fun b hb => Nat.lt_of_lt_of_le hb f3.1))
      have t2 : Sli (all H) H2 b v2 := h2.keep (f3.trans (g3.mono fun b hb => Nat.lt_of_lt_of_le hb f3.1))
      refine Ev.callC (same_ok t1 t2 (by omega)) ?_
      have hiff : (decide (skey a = skey b) == decide (a = b)) = true := dec_iff ⟨fun h => skey_inj la lb h, fun h => by rw [h]⟩
      simp only [real_b, real_i, real_c, chk_t, bnd_some, bnd_up, iff_t, iff_f, gd_t, gd_f, wd_b, wd_u, pick_t, pick_f, b_lss, b_leq, b_gtr, b_geq, b_eql, b_neq, b_seql, b_sneq, b_add, b_sub, u_not, nilC_ptr, fAddr_ptr, Nat.zero_add, extr0, extr1, extr2, lenStr, decide_true, decide_false, bt_tt, bt_tf, bt_ft, bt_ff, bt_bne, Bool.not_true, Bool.not_false, Int.reduceBEq, Int.reduceBNe, b_eqB Try.underlying4, hiff]
      refine Ev.callC (awake_ok _) ?_
      exact Ev.pure _
    · simp only [real_b, real_i, real_c, chk_t, bnd_some, bnd_up, iff_t, iff_f, gd_t, gd_f, wd_b, wd_u, pick_t, pick_f, b_lss, b_leq, b_gtr, b_geq, b_eql, b_neq, b_seql, b_sneq, b_add, b_sub, u_not, nilC_ptr, fAddr_ptr, Nat.zero_add, extr0, extr1, extr2, lenStr, decide_true, decide_false, bt_tt, bt_tf, bt_ft, bt_ff, bt_bne, Bool.not_true, Bool.not_false, Int.reduceBEq, Int.reduceBNe, ea, eb]
      refine Ev.callC (awake_ok _) ?_
      exact Ev.pure _
  · simp only [real_b, real_i, real_c, chk_t, bnd_some, bnd_up, iff_t, iff_f, gd_t, gd_f, wd_b, wd_u, pick_t, pick_f, b_lss, b_leq, b_gtr, b_geq, b_eql, b_neq, b_seql, b_sneq, b_add, b_sub, u_not, nilC_ptr, fAddr_ptr, Nat.zero_add, extr0, extr1, extr2, lenStr, decide_true, decide_false, bt_tt, bt_tf, bt_ft, bt_ff, bt_bne, Bool.not_true, Bool.not_false, Int.reduceBEq, Int.reduceBNe, ea]
    refine Ev.callC (awake_ok _) ?_
    exact Ev.pure _

theorem files_law {H : Heap} {v1 v2 : Value} {d : List Nat} {n1 : Nat} {xs : List ByteArray} (h1 : Sl (all H) H 1 v1 n1 (B d)) (hd : ∀ x ∈ d, x < 256) (h2 : Sli (all H) H xs v2) (ld : d.length ≤ 100000000000) (lx : vol xs ≤ 100000000000) :
    ∃ H', Cl 3 [v1, v2] H (.bool true) H' ∧ Keep (all H) H H' := by
  have hvl := vol_len xs
  have up : ∀ {A B : Heap}, Keep (all A) A B → ∀ b, all A b → all B b := fun h b hb => Nat.lt_of_lt_of_le hb h.1
  obtain ⟨c, H1, c1, c2, c3⟩ := copy_ok h1 (by unfold mostBytes; omega)
  -- the list, copied
  obtain ⟨cs, s1, s2⟩ := h2
  obtain ⟨w, H2, a1, a2, a3⟩ := (Acc.nil (R := all H1) (H := H1) (sz := 1)).app (by_ := 16) (Rb.all H1) ((s1.keep c3).mono (up c3)).addend s1.len (by unfold mostBytes; omega)
  have h2 : Sli (all H) H xs v2 := ⟨cs, s1, s2⟩
  have k2 : Keep (all H) H H2 := c3.trans (a3.mono (up c3))
  have k2' := up k2
  have w2 : Sli (all H2) H2 xs w := ⟨cs, by have h := a2.sl; rw [Nat.zero_add, List.nil_append] at h; exact h, (s2.keep k2).mono k2'⟩
  have cc : Sl (all H2) H2 1 c d.length (B d) := (c2.sl.keep a3).mono (up a3)
  obtain ⟨x3, H3, f1, f2, f3⟩ := file_ok cc ld
  obtain ⟨x4, H4, g1, g2, g3⟩ := rfile_ok ((h1.keep (k2.trans (f3.mono k2'))).mono (up (k2.trans (f3.mono k2')))) ld
  have k4 : Keep (all H2) H2 H4 := f3.trans (g3.mono (up f3))
  obtain ⟨x5, H5, i1, i2, i3⟩ := scan_ok ((w2.keep k4).mono (up k4)) lx
  have k5 : Keep (all H) H H5 := (k2.trans (k4.mono k2')).trans (i3.mono (up (k2.trans (k4.mono k2'))))
  obtain ⟨x6, H6, j1, j2, j3⟩ := rscan_ok ((h2.keep k5).mono (up k5)) lx
  have k6 : Keep (all H) H H6 := k5.trans (j3.mono (up k5))
  have k36 : Keep (all H3) H3 H6 := g3.trans ((i3.mono (up g3)).trans (j3.mono (up (g3.trans (i3.mono (up g3))))))
  have k46 : Keep (all H4) H4 H6 := i3.trans (j3.mono (up i3))
  have k26 : Keep (all H2) H2 H6 := f3.trans (k36.mono (up f3))
  have lk := skey_len (a := xs)
  have lf := fkey_len hd
  have le : ∀ l : List Nat, (endL 0 l).length ≤ l.length := fun l => by unfold endL; simp only [if_true]; split <;> simp
  have lf' := le (fkey d)
  have lk' := le (skey xs)
  have y3 := (f2.sl.keep k36).mono (up k36)
  have y4 := (g2.sl.keep k46).mono (up k46)
  have y5 := (i2.sl.keep j3).mono (up j3)
  have y6 := j2.sl
  have yc := (cc.keep k26).mono (up k26)
  have y0 := (h1.keep k6).mono (up k6)
  have b1 : ∀ x ∈ endL 0 (fkey d), x < 256 := fun x hx => by
    have hx' : x ∈ fkey d := by unfold endL at hx; simp only [if_true] at hx; split at hx; · cases hx
                                · exact hx
    exact fkey_byte hd x hx'
  have b2 : ∀ x ∈ endL 0 (skey xs), x < 256 := fun x hx => by
    have hx' : x ∈ skey xs := by unfold endL at hx; simp only [if_true] at hx; split at hx; · cases hx
                                 · exact hx
    exact skey_byte x hx'
  refine ⟨H6, ?_, k6⟩
  refine Ev.enter (fun n => f3_eq rfl n _ _ _) ?_
  simp only [Eng.f3, real_b, real_i, real_c, chk_t, bnd_some, bnd_up, iff_t, iff_f, gd_t, gd_f, wd_b, wd_u, pick_t, pick_f, b_lss, b_leq, b_gtr, b_geq, b_eql, b_neq, b_seql, b_sneq, b_add, b_sub, u_not, nilC_ptr, fAddr_ptr, Nat.zero_add, extr0, extr1, extr2, lenStr, decide_true, decide_false, bt_tt, bt_tf, bt_ft, bt_ff, bt_bne, Bool.not_true, Bool.not_false, Int.reduceBEq, Int.reduceBNe]
  refine Ev.callC c1 ?_
  simp only [real_b, real_i, real_c, chk_t, bnd_some, bnd_up, iff_t, iff_f, gd_t, gd_f, wd_b, wd_u, pick_t, pick_f, b_lss, b_leq, b_gtr, b_geq, b_eql, b_neq, b_seql, b_sneq, b_add, b_sub, u_not, nilC_ptr, fAddr_ptr, Nat.zero_add, extr0, extr1, extr2, lenStr, decide_true, decide_false, bt_tt, bt_tf, bt_ft, bt_ff, bt_bne, Bool.not_true, Bool.not_false, Int.reduceBEq, Int.reduceBNe, a1]
  refine Ev.callC f1 ?_
  simp only [real_b, real_i, real_c, chk_t, bnd_some, bnd_up, iff_t, iff_f, gd_t, gd_f, wd_b, wd_u, pick_t, pick_f, b_lss, b_leq, b_gtr, b_geq, b_eql, b_neq, b_seql, b_sneq, b_add, b_sub, u_not, nilC_ptr, fAddr_ptr, Nat.zero_add, extr0, extr1, extr2, lenStr, decide_true, decide_false, bt_tt, bt_tf, bt_ft, bt_ff, bt_bne, Bool.not_true, Bool.not_false, Int.reduceBEq, Int.reduceBNe]
  refine Ev.callC g1 ?_
  simp only [real_b, real_i, real_c, chk_t, bnd_some, bnd_up, iff_t, iff_f, gd_t, gd_f, wd_b, wd_u, pick_t, pick_f, b_lss, b_leq, b_gtr, b_geq, b_eql, b_neq, b_seql, b_sneq, b_add, b_sub, u_not, nilC_ptr, fAddr_ptr, Nat.zero_add, extr0, extr1, extr2, lenStr, decide_true, decide_false, bt_tt, bt_tf, bt_ft, bt_ff, bt_bne, Bool.not_true, Bool.not_false, Int.reduceBEq, Int.reduceBNe]
  refine Ev.callC i1 ?_
  simp only [real_b, real_i, real_c, chk_t, bnd_some, bnd_up, iff_t, iff_f, gd_t, gd_f, wd_b, wd_u, pick_t, pick_f, b_lss, b_leq, b_gtr, b_geq, b_eql, b_neq, b_seql, b_sneq, b_add, b_sub, u_not, nilC_ptr, fAddr_ptr, Nat.zero_add, extr0, extr1, extr2, lenStr, decide_true, decide_false, bt_tt, bt_tf, bt_ft, bt_ff, bt_bne, Bool.not_true, Bool.not_false, Int.reduceBEq, Int.reduceBNe]
  refine Ev.callC j1 ?_
  simp only [real_b, real_i, real_c, chk_t, bnd_some, bnd_up, iff_t, iff_f, gd_t, gd_f, wd_b, wd_u, pick_t, pick_f, b_lss, b_leq, b_gtr, b_geq, b_eql, b_neq, b_seql, b_sneq, b_add, b_sub, u_not, nilC_ptr, fAddr_ptr, Nat.zero_add, extr0, extr1, extr2, lenStr, decide_true, decide_false, bt_tt, bt_tf, bt_ft, bt_ff, bt_bne, Bool.not_true, Bool.not_false, Int.reduceBEq, Int.reduceBNe]
  refine Ev.callC (eq_ok y3 y4 (by omega)) ?_
  try simp only [real_b, real_i, real_c, chk_t, bnd_some, bnd_up, iff_t, iff_f, gd_t, gd_f, wd_b, wd_u, pick_t, pick_f, b_lss, b_leq, b_gtr, b_geq, b_eql, b_neq, b_seql, b_sneq, b_add, b_sub, u_not, nilC_ptr, fAddr_ptr, Nat.zero_add, extr0, extr1, extr2, lenStr, decide_true, decide_false, bt_tt, bt_tf, bt_ft, bt_ff, bt_bne, Bool.not_true, Bool.not_false, Int.reduceBEq, Int.reduceBNe, beq_self_eq_true]
  refine Ev.callC (eq_ok y5 y6 (by omega)) ?_
  try simp only [real_b, real_i, real_c, chk_t, bnd_some, bnd_up, iff_t, iff_f, gd_t, gd_f, wd_b, wd_u, pick_t, pick_f, b_lss, b_leq, b_gtr, b_geq, b_eql, b_neq, b_seql, b_sneq, b_add, b_sub, u_not, nilC_ptr, fAddr_ptr, Nat.zero_add, extr0, extr1, extr2, lenStr, decide_true, decide_false, bt_tt, bt_tf, bt_ft, bt_ff, bt_bne, Bool.not_true, Bool.not_false, Int.reduceBEq, Int.reduceBNe, beq_self_eq_true]
  refine Ev.callC (eq_ok yc y0 (by omega)) ?_
  try simp only [real_b, real_i, real_c, chk_t, bnd_some, bnd_up, iff_t, iff_f, gd_t, gd_f, wd_b, wd_u, pick_t, pick_f, b_lss, b_leq, b_gtr, b_geq, b_eql, b_neq, b_seql, b_sneq, b_add, b_sub, u_not, nilC_ptr, fAddr_ptr, Nat.zero_add, extr0, extr1, extr2, lenStr, decide_true, decide_false, bt_tt, bt_tf, bt_ft, bt_ff, bt_bne, Bool.not_true, Bool.not_false, Int.reduceBEq, Int.reduceBNe, beq_self_eq_true]
  refine Ev.callC (kind_ok y3 b1) ?_
  try simp only [real_b, real_i, real_c, chk_t, bnd_some, bnd_up, iff_t, iff_f, gd_t, gd_f, wd_b, wd_u, pick_t, pick_f, b_lss, b_leq, b_gtr, b_geq, b_eql, b_neq, b_seql, b_sneq, b_add, b_sub, u_not, nilC_ptr, fAddr_ptr, Nat.zero_add, extr0, extr1, extr2, lenStr, decide_true, decide_false, bt_tt, bt_tf, bt_ft, bt_ff, bt_bne, Bool.not_true, Bool.not_false, Int.reduceBEq, Int.reduceBNe, beq_self_eq_true]
  refine Ev.callC (rkind_ok y4 b1) ?_
  try simp only [real_b, real_i, real_c, chk_t, bnd_some, bnd_up, iff_t, iff_f, gd_t, gd_f, wd_b, wd_u, pick_t, pick_f, b_lss, b_leq, b_gtr, b_geq, b_eql, b_neq, b_seql, b_sneq, b_add, b_sub, u_not, nilC_ptr, fAddr_ptr, Nat.zero_add, extr0, extr1, extr2, lenStr, decide_true, decide_false, bt_tt, bt_tf, bt_ft, bt_ff, bt_bne, Bool.not_true, Bool.not_false, Int.reduceBEq, Int.reduceBNe, beq_self_eq_true]
  refine Ev.callC (kind_ok y5 b2) ?_
  try simp only [real_b, real_i, real_c, chk_t, bnd_some, bnd_up, iff_t, iff_f, gd_t, gd_f, wd_b, wd_u, pick_t, pick_f, b_lss, b_leq, b_gtr, b_geq, b_eql, b_neq, b_seql, b_sneq, b_add, b_sub, u_not, nilC_ptr, fAddr_ptr, Nat.zero_add, extr0, extr1, extr2, lenStr, decide_true, decide_false, bt_tt, bt_tf, bt_ft, bt_ff, bt_bne, Bool.not_true, Bool.not_false, Int.reduceBEq, Int.reduceBNe, beq_self_eq_true]
  refine Ev.callC (rkind_ok y6 b2) ?_
  try simp only [real_b, real_i, real_c, chk_t, bnd_some, bnd_up, iff_t, iff_f, gd_t, gd_f, wd_b, wd_u, pick_t, pick_f, b_lss, b_leq, b_gtr, b_geq, b_eql, b_neq, b_seql, b_sneq, b_add, b_sub, u_not, nilC_ptr, fAddr_ptr, Nat.zero_add, extr0, extr1, extr2, lenStr, decide_true, decide_false, bt_tt, bt_tf, bt_ft, bt_ff, bt_bne, Bool.not_true, Bool.not_false, Int.reduceBEq, Int.reduceBNe, beq_self_eq_true]
  refine Ev.callC (kind_ok y0 hd) ?_
  try simp only [real_b, real_i, real_c, chk_t, bnd_some, bnd_up, iff_t, iff_f, gd_t, gd_f, wd_b, wd_u, pick_t, pick_f, b_lss, b_leq, b_gtr, b_geq, b_eql, b_neq, b_seql, b_sneq, b_add, b_sub, u_not, nilC_ptr, fAddr_ptr, Nat.zero_add, extr0, extr1, extr2, lenStr, decide_true, decide_false, bt_tt, bt_tf, bt_ft, bt_ff, bt_bne, Bool.not_true, Bool.not_false, Int.reduceBEq, Int.reduceBNe, beq_self_eq_true]
  refine Ev.callC (rkind_ok y0 hd) ?_
  try simp only [real_b, real_i, real_c, chk_t, bnd_some, bnd_up, iff_t, iff_f, gd_t, gd_f, wd_b, wd_u, pick_t, pick_f, b_lss, b_leq, b_gtr, b_geq, b_eql, b_neq, b_seql, b_sneq, b_add, b_sub, u_not, nilC_ptr, fAddr_ptr, Nat.zero_add, extr0, extr1, extr2, lenStr, decide_true, decide_false, bt_tt, bt_tf, bt_ft, bt_ff, bt_bne, Bool.not_true, Bool.not_false, Int.reduceBEq, Int.reduceBNe, beq_self_eq_true]
  refine Ev.callC (awake_ok _) ?_
  exact Ev.pure _
end Go.Eng
