/- What may stand between words; kinds; the law that is awake. -/
import Derived.Test.YtdpdagmcdakjjaaDoorWK
set_option linter.unusedVariables false
set_option linter.unusedSimpArgs false
set_option maxRecDepth 100000
namespace Go.Eng
open Go Go.Proofs

theorem u8_bne (c k : UInt8) {n : Int} (h : (k.toNat : Int) = n) : ((c.toNat : Int) != n) = !decide (c = k) := by rw [bne, u8_lit c k h]
section
variable {R : Nat → Prop} {H : Heap} {l : List UInt8} {v : Value}
theorem btw_joint {i : Nat} {m' : Bool} {c : UInt8} {r : Value × Heap} (hi : i < 9223372036854775807) (h1 : m' = false ∧ wBlank c = false → r = (.bool false, H))
    (h2 : ¬ (m' = false ∧ wBlank c = false) → Ev (fun n m => f16_L0 real (AC n) n m v (.bool m') (.int .i64 ((i + 1 : Nat) : Int)) H) r) :
    Ev (fun n m => f16_J1 real (AC n) n (f16_L0 real (AC n) n m) v (.bool m') (.int .i64 (i : Int)) (.int .u8 (c.toNat : Int)) H) r := by
  cases m' with
  | true =>
    have h := h2 (by simp)
    simp only [f16_J1, real_b, real_i, real_c, chk_t, bnd_some, bnd_up, iff_t, iff_f, gd_t, gd_f, wd_b, wd_u, pick_t, pick_f, b_lss, b_leq, b_gtr, b_geq, b_eql, b_neq, b_seql, b_sneq, b_add, b_sub, u_not, nilC_ptr, fAddr_ptr, Nat.zero_add, extr0, extr1, extr2, lenStr, decide_true, decide_false, bt_tt, bt_tf, bt_ft, bt_ff, bt_bne, Bool.not_true, Bool.not_false, Int.reduceBEq, Int.reduceBNe, extr30, extr31, Bool.not_true, idx_up hi]
    exact h
  | false =>
    simp only [f16_J1, real_b, real_i, real_c, chk_t, bnd_some, bnd_up, iff_t, iff_f, gd_t, gd_f, wd_b, wd_u, pick_t, pick_f, b_lss, b_leq, b_gtr, b_geq, b_eql, b_neq, b_seql, b_sneq, b_add, b_sub, u_not, nilC_ptr, fAddr_ptr, Nat.zero_add, extr0, extr1, extr2, lenStr, decide_true, decide_false, bt_tt, bt_tf, bt_ft, bt_ff, bt_bne, Bool.not_true, Bool.not_false, Int.reduceBEq, Int.reduceBNe, extr30, extr31, Bool.not_false, b_neq, u8_bne c 32 (n := 32) rfl, u8_bne c 9 (n := 9) rfl, u8_bne c 10 (n := 10) rfl, u8_bne c 13 (n := 13) rfl]
    by_cases c32 : c = 32
    · have h := h2 (by simp [wBlank, c32])
      simp only [b_neq, u8_bne c 9 (n := 9) rfl, u8_bne c 10 (n := 10) rfl, u8_bne c 13 (n := 13) rfl, decide_eq_true c32, Bool.not_true, real_b, real_i, real_c, chk_t, bnd_some, bnd_up, iff_t, iff_f, gd_t, gd_f, wd_b, wd_u, pick_t, pick_f, b_lss, b_leq, b_gtr, b_geq, b_eql, b_neq, b_seql, b_sneq, b_add, b_sub, u_not, nilC_ptr, fAddr_ptr, Nat.zero_add, extr0, extr1, extr2, lenStr, decide_true, decide_false, bt_tt, bt_tf, bt_ft, bt_ff, bt_bne, Bool.not_true, Bool.not_false, Int.reduceBEq, Int.reduceBNe, extr30, extr31, idx_up hi]
      exact h
    by_cases c9 : c = 9
    · have h := h2 (by simp [wBlank, c9])
      simp only [b_neq, u8_bne c 9 (n := 9) rfl, u8_bne c 10 (n := 10) rfl, u8_bne c 13 (n := 13) rfl, decide_eq_false c32, decide_eq_true c9, Bool.not_true, Bool.not_false, real_b, real_i, real_c, chk_t, bnd_some, bnd_up, iff_t, iff_f, gd_t, gd_f, wd_b, wd_u, pick_t, pick_f, b_lss, b_leq, b_gtr, b_geq, b_eql, b_neq, b_seql, b_sneq, b_add, b_sub, u_not, nilC_ptr, fAddr_ptr, Nat.zero_add, extr0, extr1, extr2, lenStr, decide_true, decide_false, bt_tt, bt_tf, bt_ft, bt_ff, bt_bne, Bool.not_true, Bool.not_false, Int.reduceBEq, Int.reduceBNe, extr30, extr31, idx_up hi]
      exact h
    by_cases c10 : c = 10
    · have h := h2 (by simp [wBlank, c10])
      simp only [b_neq, u8_bne c 9 (n := 9) rfl, u8_bne c 10 (n := 10) rfl, u8_bne c 13 (n := 13) rfl, decide_eq_false c32, decide_eq_false c9, decide_eq_true c10, Bool.not_true, Bool.not_false, real_b, real_i, real_c, chk_t, bnd_some, bnd_up, iff_t, iff_f, gd_t, gd_f, wd_b, wd_u, pick_t, pick_f, b_lss, b_leq, b_gtr, b_geq, b_eql, b_neq, b_seql, b_sneq, b_add, b_sub, u_not, nilC_ptr, fAddr_ptr, Nat.zero_add, extr0, extr1, extr2, lenStr, decide_true, decide_false, bt_tt, bt_tf, bt_ft, bt_ff, bt_bne, Bool.not_true, Bool.not_false, Int.reduceBEq, Int.reduceBNe, extr30, extr31, idx_up hi]
      exact h
    by_cases c13 : c = 13
    · have h := h2 (by simp [wBlank, c13])
      simp only [b_neq, u8_bne c 9 (n := 9) rfl, u8_bne c 10 (n := 10) rfl, u8_bne c 13 (n := 13) rfl, decide_eq_false c32, decide_eq_false c9, decide_eq_false c10, decide_eq_true c13, Bool.not_true, Bool.not_false, real_b, real_i, real_c, chk_t, bnd_some, bnd_up, iff_t, iff_f, gd_t, gd_f, wd_b, wd_u, pick_t, pick_f, b_lss, b_leq, b_gtr, b_geq, b_eql, b_neq, b_seql, b_sneq, b_add, b_sub, u_not, nilC_ptr, fAddr_ptr, Nat.zero_add, extr0, extr1, extr2, lenStr, decide_true, decide_false, bt_tt, bt_tf, bt_ft, bt_ff, bt_bne, Bool.not_true, Bool.not_false, Int.reduceBEq, Int.reduceBNe, extr30, extr31, idx_up hi]
      exact h
    have hbl : wBlank c = false := by simp [wBlank, c32, c9, c10, c13]
    rw [h1 ⟨rfl, hbl⟩]
    simp only [b_neq, u8_bne c 9 (n := 9) rfl, u8_bne c 10 (n := 10) rfl, u8_bne c 13 (n := 13) rfl, decide_eq_false c32, decide_eq_false c9, decide_eq_false c10, decide_eq_false c13, Bool.not_true, Bool.not_false, real_b, real_i, real_c, chk_t, bnd_some, bnd_up, iff_t, iff_f, gd_t, gd_f, wd_b, wd_u, pick_t, pick_f, b_lss, b_leq, b_gtr, b_geq, b_eql, b_neq, b_seql, b_sneq, b_add, b_sub, u_not, nilC_ptr, fAddr_ptr, Nat.zero_add, extr0, extr1, extr2, lenStr, decide_true, decide_false, bt_tt, bt_tf, bt_ft, bt_ff, bt_bne, Bool.not_true, Bool.not_false, Int.reduceBEq, Int.reduceBNe, extr30, extr31]
    exact Ev.pure _
theorem btw_loop (hs : SlU R H l v) (hl : l.length < 9223372036854775807) : ∀ (k i : Nat) (st : Bool), i + k = l.length →
    Ev (fun n m => f16_L0 real (AC n) n m v (.bool st) (.int .i64 (i : Int)) H) (.bool (btwN st (l.drop i)).isSome, H) := by
  intro k
  induction k with
  | zero =>
    intro i st hi
    refine Ev.step (fun n m => f16_L0.eq_2 _ _ _ _ _ _ _ _) ?_
    rw [List.drop_eq_nil_of_le (by omega)]
    simp only [real_b, real_i, real_c, chk_t, bnd_some, bnd_up, iff_t, iff_f, gd_t, gd_f, wd_b, wd_u, pick_t, pick_f, b_lss, b_leq, b_gtr, b_geq, b_eql, b_neq, b_seql, b_sneq, b_add, b_sub, u_not, nilC_ptr, fAddr_ptr, Nat.zero_add, extr0, extr1, extr2, lenStr, decide_true, decide_false, bt_tt, bt_tf, bt_ft, bt_ff, bt_bne, Bool.not_true, Bool.not_false, Int.reduceBEq, Int.reduceBNe, extr30, extr31, hs.len, idx_ge (show l.length ≤ i by omega), btwN, Option.isSome_some]
    exact Ev.pure _
  | succ k ih =>
    intro i st hi
    obtain ⟨c, hc, hd⟩ := drop_at (l := l) (i := i) (by omega)
    obtain ⟨p, p1, p2⟩ := hs.at hc
    have key : ∀ m', m' = (if c = 10 then false else if c = 35 then true else st) →
        Ev (fun n m => f16_J1 real (AC n) n (f16_L0 real (AC n) n m) v (.bool m') (.int .i64 (i : Int)) (.int .u8 (c.toNat : Int)) H) (.bool (btwN st (l.drop i)).isSome, H) := by
      intro m' hm
      rw [hd]
      refine btw_joint (by omega) (fun h => ?_) (fun h => ?_)
      · simp only [btwN, ← hm, if_pos h, Option.isSome_none]
      · simp only [btwN, ← hm, if_neg h]
        exact ih (i + 1) m' (by omega)
    refine Ev.step (fun n m => f16_L0.eq_2 _ _ _ _ _ _ _ _) ?_
    simp only [real_b, real_i, real_c, chk_t, bnd_some, bnd_up, iff_t, iff_f, gd_t, gd_f, wd_b, wd_u, pick_t, pick_f, b_lss, b_leq, b_gtr, b_geq, b_eql, b_neq, b_seql, b_sneq, b_add, b_sub, u_not, nilC_ptr, fAddr_ptr, Nat.zero_add, extr0, extr1, extr2, lenStr, decide_true, decide_false, bt_tt, bt_tf, bt_ft, bt_ff, bt_bne, Bool.not_true, Bool.not_false, Int.reduceBEq, Int.reduceBNe, extr30, extr31, hs.len, idx_lt (show i < l.length by omega), p1, p2, u8_lit c 35 (n := 35) rfl]
    by_cases h10 : c = 10
    · have h35 : ¬ c = 35 := by rw [h10]; decide
      simp only [decide_eq_false h35, real_b, real_i, real_c, chk_t, bnd_some, bnd_up, iff_t, iff_f, gd_t, gd_f, wd_b, wd_u, pick_t, pick_f, b_lss, b_leq, b_gtr, b_geq, b_eql, b_neq, b_seql, b_sneq, b_add, b_sub, u_not, nilC_ptr, fAddr_ptr, Nat.zero_add, extr0, extr1, extr2, lenStr, decide_true, decide_false, bt_tt, bt_tf, bt_ft, bt_ff, bt_bne, Bool.not_true, Bool.not_false, Int.reduceBEq, Int.reduceBNe, extr30, extr31, f16_J2, u8_lit c 10 (n := 10) rfl, decide_eq_true h10]
      exact key false (by rw [if_pos h10])
    · by_cases h35 : c = 35
      · simp only [decide_eq_true h35, real_b, real_i, real_c, chk_t, bnd_some, bnd_up, iff_t, iff_f, gd_t, gd_f, wd_b, wd_u, pick_t, pick_f, b_lss, b_leq, b_gtr, b_geq, b_eql, b_neq, b_seql, b_sneq, b_add, b_sub, u_not, nilC_ptr, fAddr_ptr, Nat.zero_add, extr0, extr1, extr2, lenStr, decide_true, decide_false, bt_tt, bt_tf, bt_ft, bt_ff, bt_bne, Bool.not_true, Bool.not_false, Int.reduceBEq, Int.reduceBNe, extr30, extr31, f16_J2, u8_lit c 10 (n := 10) rfl, decide_eq_false h10]
        exact key true (by rw [if_neg h10, if_pos h35])
      · simp only [decide_eq_false h35, real_b, real_i, real_c, chk_t, bnd_some, bnd_up, iff_t, iff_f, gd_t, gd_f, wd_b, wd_u, pick_t, pick_f, b_lss, b_leq, b_gtr, b_geq, b_eql, b_neq, b_seql, b_sneq, b_add, b_sub, u_not, nilC_ptr, fAddr_ptr, Nat.zero_add, extr0, extr1, extr2, lenStr, decide_true, decide_false, bt_tt, bt_tf, bt_ft, bt_ff, bt_bne, Bool.not_true, Bool.not_false, Int.reduceBEq, Int.reduceBNe, extr30, extr31, f16_J2, u8_lit c 10 (n := 10) rfl, decide_eq_false h10]
        exact key st (by rw [if_neg h10, if_neg h35])
theorem btw_ok (hs : SlU R H l v) (hl : l.length < 9223372036854775807) : Cl 16 [v] H (.bool (btwN false l).isSome) H := by
  refine Ev.enter (fun n => f16_eq rfl n _ _) ?_
  exact (btw_loop hs hl l.length 0 false (by omega)).loop
/-! ### numbers -/
theorem ints_loop {xs ys : List Int} {w : Value} (hx : Sl R H 1 v xs.length (I xs)) (hy : Sl R H 1 w ys.length (I ys)) (hl : xs.length = ys.length) (hn : xs.length < 9223372036854775807) : ∀ (k i : Nat), i + k = xs.length →
    Ev (fun n m => f18_L0 real (AC n) n m v w (.int .i64 (i : Int)) H) (.bool (decide (xs.drop i = ys.drop i)), H) := by
  intro k
  induction k with
  | zero =>
    intro i hi
    refine Ev.step (fun n m => f18_L0.eq_2 _ _ _ _ _ _ _ _) ?_
    have e : (xs.drop i = ys.drop i) = True := by rw [List.drop_eq_nil_of_le (by omega), List.drop_eq_nil_of_le (by omega)]; simp
    simp only [real_b, real_i, real_c, chk_t, bnd_some, bnd_up, iff_t, iff_f, gd_t, gd_f, wd_b, wd_u, pick_t, pick_f, b_lss, b_leq, b_gtr, b_geq, b_eql, b_neq, b_seql, b_sneq, b_add, b_sub, u_not, nilC_ptr, fAddr_ptr, Nat.zero_add, extr0, extr1, extr2, lenStr, decide_true, decide_false, bt_tt, bt_tf, bt_ft, bt_ff, bt_bne, Bool.not_true, Bool.not_false, Int.reduceBEq, Int.reduceBNe, extr30, extr31, hx.lenS, idx_ge (show xs.length ≤ i by omega), e, decide_true]
    exact Ev.pure _
  | succ k ih =>
    intro i hi
    obtain ⟨x, h1, h2⟩ := drop_at (l := xs) (i := i) (by omega)
    obtain ⟨y, h3, h4⟩ := drop_at (l := ys) (i := i) (by omega)
    obtain ⟨p, a1, a2⟩ := hx.at1 (I_at h1)
    obtain ⟨q, a3, a4⟩ := hy.at1 (I_at h3)
    refine Ev.step (fun n m => f18_L0.eq_2 _ _ _ _ _ _ _ _) ?_
    rw [h2, h4]
    simp only [real_b, real_i, real_c, chk_t, bnd_some, bnd_up, iff_t, iff_f, gd_t, gd_f, wd_b, wd_u, pick_t, pick_f, b_lss, b_leq, b_gtr, b_geq, b_eql, b_neq, b_seql, b_sneq, b_add, b_sub, u_not, nilC_ptr, fAddr_ptr, Nat.zero_add, extr0, extr1, extr2, lenStr, decide_true, decide_false, bt_tt, bt_tf, bt_ft, bt_ff, bt_bne, Bool.not_true, Bool.not_false, Int.reduceBEq, Int.reduceBNe, extr30, extr31, hx.lenS, idx_lt (show i < xs.length by omega), a1, a2, a3, a4, b_neq]
    by_cases hq : x = y
    · have e : (x != y) = false := by simpa using hq
      simp only [e, real_b, real_i, real_c, chk_t, bnd_some, bnd_up, iff_t, iff_f, gd_t, gd_f, wd_b, wd_u, pick_t, pick_f, b_lss, b_leq, b_gtr, b_geq, b_eql, b_neq, b_seql, b_sneq, b_add, b_sub, u_not, nilC_ptr, fAddr_ptr, Nat.zero_add, extr0, extr1, extr2, lenStr, decide_true, decide_false, bt_tt, bt_tf, bt_ft, bt_ff, bt_bne, Bool.not_true, Bool.not_false, Int.reduceBEq, Int.reduceBNe, extr30, extr31, idx_up (show i < 9223372036854775807 by omega)]
      simp only [hq, List.cons.injEq, true_and]
      exact ih (i + 1) (by omega)
    · have e : (x != y) = true := by simpa using hq
      simp only [e, real_b, real_i, real_c, chk_t, bnd_some, bnd_up, iff_t, iff_f, gd_t, gd_f, wd_b, wd_u, pick_t, pick_f, b_lss, b_leq, b_gtr, b_geq, b_eql, b_neq, b_seql, b_sneq, b_add, b_sub, u_not, nilC_ptr, fAddr_ptr, Nat.zero_add, extr0, extr1, extr2, lenStr, decide_true, decide_false, bt_tt, bt_tf, bt_ft, bt_ff, bt_bne, Bool.not_true, Bool.not_false, Int.reduceBEq, Int.reduceBNe, extr30, extr31, List.cons.injEq, hq, false_and, decide_false]
      exact Ev.pure _
theorem ints_ok {xs ys : List Int} {w : Value} (hx : Sl R H 1 v xs.length (I xs)) (hy : Sl R H 1 w ys.length (I ys)) (hn : xs.length < 9223372036854775807) : Cl 18 [v, w] H (.bool (decide (xs = ys))) H := by
  refine Ev.enter (fun n => f18_eq rfl n _ _ _) ?_
  by_cases hl : xs.length = ys.length
  · have e : ((xs.length : Int) != (ys.length : Int)) = false := by simp [hl]
    simp only [f18, real_b, real_i, real_c, chk_t, bnd_some, bnd_up, iff_t, iff_f, gd_t, gd_f, wd_b, wd_u, pick_t, pick_f, b_lss, b_leq, b_gtr, b_geq, b_eql, b_neq, b_seql, b_sneq, b_add, b_sub, u_not, nilC_ptr, fAddr_ptr, Nat.zero_add, extr0, extr1, extr2, lenStr, decide_true, decide_false, bt_tt, bt_tf, bt_ft, bt_ff, bt_bne, Bool.not_true, Bool.not_false, Int.reduceBEq, Int.reduceBNe, extr30, extr31, hx.lenS, hy.lenS, b_neq, e]
    have := (ints_loop hx hy hl hn xs.length 0 (by omega)).loop
    simpa using this
  · have e : ((xs.length : Int) != (ys.length : Int)) = true := by
      rw [bne, Bool.not_eq_true']; simp; omega
    have e2 : (xs = ys) = False := eq_false (fun h => hl (by rw [h]))
    simp only [f18, real_b, real_i, real_c, chk_t, bnd_some, bnd_up, iff_t, iff_f, gd_t, gd_f, wd_b, wd_u, pick_t, pick_f, b_lss, b_leq, b_gtr, b_geq, b_eql, b_neq, b_seql, b_sneq, b_add, b_sub, u_not, nilC_ptr, fAddr_ptr, Nat.zero_add, extr0, extr1, extr2, lenStr, decide_true, decide_false, bt_tt, bt_tf, bt_ft, bt_ff, bt_bne, Bool.not_true, Bool.not_false, Int.reduceBEq, Int.reduceBNe, extr30, extr31, hx.lenS, hy.lenS, b_neq, e, e2, decide_false]
    exact Ev.pure _
end
def kindsI (ts : List Tok) : List Int := ts.map fun t => (t.K : Int)
theorem kinds_loop {H0 : Heap} {ts : List Tok} {v : Value} (hs : Tks (all H0) H0 ts v) (hl : ts.length ≤ 100000) : ∀ (k i : Nat) (H : Heap) (w : Value), i + k = ts.length → Keep (all H0) H0 H → Acc (all H0) H 1 w i (I (kindsI (ts.take i))) →
    ∃ w' H', Ev (fun n m => f19_L0 real (AC n) n m v w (.int .i64 (i : Int)) H) (w', H') ∧ Acc (all H0) H' 1 w' (kindsI ts).length (I (kindsI ts)) ∧ Keep (all H0) H0 H' := by
  intro k
  induction k with
  | zero =>
    intro i H w hi hK hA
    obtain rfl : i = ts.length := by omega
    have hs' : Tks (all H0) H ts v := Sl.keep hs hK
    refine ⟨w, H, ?_, by simpa [kindsI, List.take_length] using hA, hK⟩
    refine Ev.step (fun n m => f19_L0.eq_2 _ _ _ _ _ _ _ _) ?_
    simp only [real_b, real_i, real_c, chk_t, bnd_some, bnd_up, iff_t, iff_f, gd_t, gd_f, wd_b, wd_u, pick_t, pick_f, b_lss, b_leq, b_gtr, b_geq, b_eql, b_neq, b_seql, b_sneq, b_add, b_sub, u_not, nilC_ptr, fAddr_ptr, Nat.zero_add, extr0, extr1, extr2, lenStr, decide_true, decide_false, bt_tt, bt_tf, bt_ft, bt_ff, bt_bne, Bool.not_true, Bool.not_false, Int.reduceBEq, Int.reduceBNe, extr30, extr31, Sl.lenS hs', idx_ge (Nat.le_refl ts.length)]
    exact Ev.pure _
  | succ k ih =>
    intro i H w hi hK hA
    have hs' : Tks (all H0) H ts v := Sl.keep hs hK
    obtain ⟨t, h1, h2⟩ := drop_at (l := ts) (i := i) (by omega)
    obtain ⟨b, o, a1, a2, a3, a4⟩ := hs'.at h1
    have hm : mostBytes = 140737488355328 := rfl
    have hp : Keep (all H) H (H.push ⟨[.int .i64 (t.K : Int)], 1, true⟩) := push_keep
    obtain ⟨w', H', g1, g2, g3⟩ := (hA.keep hp).app (by_ := 8) ((Rb.all H0).mono (Nat.le_trans hK.1 hp.1)) (addend_push (sz := 1) (n := 1) rfl) rfl (by omega)
    have et : ts.take (i + 1) = ts.take i ++ [t] := by
      rw [List.take_add_one, h1]; rfl
    have g2' : Acc (all H0) H' 1 w' (i + 1) (I (kindsI (ts.take (i + 1)))) := by
      rw [et]
      simpa [kindsI, I] using g2
    obtain ⟨w2, H2, q1, q2, q3⟩ := ih (i + 1) H' w' (by omega) ((hK.trans (hp.of_all ((Rb.all H0).mono hK.1))).trans g3) g2'
    refine ⟨w2, H2, ?_, q2, q3⟩
    refine Ev.step (fun n m => f19_L0.eq_2 _ _ _ _ _ _ _ _) ?_
    have hb : bldS 1 1 [.int .i64 0] [(0, 1, .int .i64 (t.K : Int))] H = some (.slice (some ⟨H.n, 0, none⟩) 1 1, H.push ⟨[.int .i64 (t.K : Int)], 1, true⟩) := bld1 rfl rfl
    simp only [real_b, real_i, real_c, chk_t, bnd_some, bnd_up, iff_t, iff_f, gd_t, gd_f, wd_b, wd_u, pick_t, pick_f, b_lss, b_leq, b_gtr, b_geq, b_eql, b_neq, b_seql, b_sneq, b_add, b_sub, u_not, nilC_ptr, fAddr_ptr, Nat.zero_add, extr0, extr1, extr2, lenStr, decide_true, decide_false, bt_tt, bt_tf, bt_ft, bt_ff, bt_bne, Bool.not_true, Bool.not_false, Int.reduceBEq, Int.reduceBNe, extr30, extr31, Sl.lenS hs', idx_lt (show i < ts.length by omega), a1, Nat.add_zero, a3, hb, g1, idx_up (show i < 9223372036854775807 by omega)]
    exact q1
theorem kinds_ok {H : Heap} {ts : List Tok} {v : Value} (hs : Tks (all H) H ts v) (hl : ts.length ≤ 100000) :
    ∃ w H', Cl 19 [v] H w H' ∧ Acc (all H) H' 1 w (kindsI ts).length (I (kindsI ts)) ∧ Keep (all H) H H' := by
  obtain ⟨w, H', h1, h2, h3⟩ := kinds_loop hs hl ts.length 0 H nilS (by omega) (Keep.refl _ _) Acc.nil
  refine ⟨w, H', ?_, h2, h3⟩
  refine Ev.enter (fun n => f19_eq rfl n _ _) ?_
  exact h1.loop
end Go.Eng
