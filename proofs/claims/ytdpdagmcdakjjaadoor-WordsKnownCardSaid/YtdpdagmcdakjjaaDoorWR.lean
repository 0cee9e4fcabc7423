/- The law WordsJoin. -/
import Derived.Test.YtdpdagmcdakjjaaDoorWQ
set_option linter.unusedVariables false
set_option linter.unusedSimpArgs false
set_option maxRecDepth 100000
namespace Go.Eng
open Go Go.Proofs

theorem bs_back (s : ByteArray) : bs s.data.toList = s := by simp [bs]
theorem Sli.str {R : Nat → Prop} {H : Heap} {xs : List ByteArray} {v : Value} (h : Sli R H xs v) {i : Nat} {s : ByteArray} (hs : xs[i]? = some s) : ∃ p, iAddrS 1 v (.int .i64 i) = some p ∧ ldC p H = some (.string s, H) := by
  obtain ⟨b, o, c, g1, g2, g3, g4, g5⟩ := h.at hs
  have hc : c = [.string s] := g3
  subst hc
  exact ⟨_, g1, g4 0 _ rfl⟩
theorem Sli.int {R : Nat → Prop} {H : Heap} {xs : List Int} {v : Value} (h : Sli R H xs v) {i : Nat} {x : Int} (hs : xs[i]? = some x) : ∃ p, iAddrS 1 v (.int .i64 i) = some p ∧ ldC p H = some (.int .i64 x, H) ∧ inI x := by
  obtain ⟨b, o, c, g1, g2, g3, g4, g5⟩ := h.at hs
  obtain ⟨rfl, h1, h2⟩ := g3
  exact ⟨_, g1, g4 0 _ rfl, h1, h2⟩
/-! ### a word that is written -/
def signsN : List UInt8 := [61, 59, 58, 124]
def writN (x : Int) (s : List UInt8) : List UInt8 × Nat :=
  if 1 + bringN x 13 = 1 ∧ isNameN s = true then (s, 1)
  else if 1 + bringN x 13 = 2 ∧ isPathN s = true then (34 :: (s ++ [34]), 2)
  else if 1 + bringN x 13 = 3 ∧ isPatN s = true then (47 :: (s ++ [47]), 3)
  else if 4 < 1 + bringN x 13 then (spelledN (1 + bringN x 13), (1 + bringN x 13).toNat)
  else ((signsN.drop (bringN (Int.tdiv x 13) 4).toNat).take 1, 4)
theorem spelled_len (k : Int) : (spelledN k).length ≤ 6 := by
  unfold spelledN
  split
  case isTrue h =>
    have h0 : (k - 5).toNat < 9 := by omega
    have : ∀ i < 9, (kws.getD i []).length ≤ 6 := by decide
    exact this _ h0
  case isFalse => simp
theorem writ_is (x : Int) (s : List UInt8) : WordIs (writN x s).1 (writN x s).2 := by
  obtain ⟨h1, h2⟩ := bring_in (i := x) (n := 13) (by omega)
  unfold writN
  by_cases c1 : 1 + bringN x 13 = 1 ∧ isNameN s = true
  · rw [if_pos c1]; exact name_is c1.2
  rw [if_neg c1]
  by_cases c2 : 1 + bringN x 13 = 2 ∧ isPathN s = true
  · rw [if_pos c2]; exact path_is c2.2
  rw [if_neg c2]
  by_cases c3 : 1 + bringN x 13 = 3 ∧ isPatN s = true
  · rw [if_pos c3]; exact pat_is c3.2
  rw [if_neg c3]
  by_cases c4 : 4 < 1 + bringN x 13
  · rw [if_pos c4]
    have e : 1 + bringN x 13 = (((1 + bringN x 13).toNat : Nat) : Int) := by omega
    have := kw_is (k := (1 + bringN x 13).toNat) (by omega) (by omega)
    rw [← e] at this
    exact this
  · rw [if_neg c4]
    obtain ⟨h3, h4⟩ := bring_in (i := Int.tdiv x 13) (n := 4) (by omega)
    have : ∀ i < 4, (signsN.drop i).take 1 = [signsN.getD i 0] ∧ wSign (signsN.getD i 0) = true := by decide
    obtain ⟨e1, e2⟩ := this (bringN (Int.tdiv x 13) 4).toNat (by omega)
    simp only [e1]
    exact sign_is e2
theorem writ_len (x : Int) {s : List UInt8} (h : s.length ≤ 40) : (writN x s).1.length ≤ 42 := by
  unfold writN
  split
  · simp; omega
  split
  · simp; omega
  split
  · simp; omega
  split
  · have := spelled_len (1 + bringN x 13); simp only; omega
  · simp only [List.length_take]; omega
theorem tmod_tdiv (a b : Int) : a.tmod b + b * a.tdiv b = a := by
  first | exact Int.tmod_add_mul_tdiv a b | exact Int.tmod_add_tdiv a b | exact Int.mul_tdiv_add_tmod a b
theorem writ_ok {H : Heap} {s : List UInt8} {x : Int} (hL : Lg H) (hb : s.length ≤ 40) (hx : inI x) : ∃ H', Cl 28 [.int .i64 x, .string (bs s)] H (.tuple #[.string (bs (writN x s).1), .int .i64 ((writN x s).2 : Int)]) H' ∧ Keep (all H) H H' := by
  obtain ⟨h1, h2⟩ := bring_in (i := x) (n := 13) (by omega)
  have c0 := bring_ok hx (n := 13) (by omega) H
  obtain ⟨Hp, p1, p2⟩ := path_ok (l := s) H (by omega)
  have hk : IntKind.i64.wrap (1 + bringN x 13) = 1 + bringN x 13 := wrap_i64 (by omega) (by omega)
  have q34 : binB Tryd.prog .add 9 (.string ⟨#[34]⟩) (.string (bs s)) = some (.string (bs (34 :: s))) := b_sadd (a := [34]) (by simp; omega)
  have q34' : binB Tryd.prog .add 9 (.string (bs (34 :: s))) (.string ⟨#[34]⟩) = some (.string (bs (34 :: (s ++ [34])))) := b_sadd (a := 34 :: s) (b := [34]) (by simp; omega)
  have q47 : binB Tryd.prog .add 9 (.string ⟨#[47]⟩) (.string (bs s)) = some (.string (bs (47 :: s))) := b_sadd (a := [47]) (by simp; omega)
  have q47' : binB Tryd.prog .add 9 (.string (bs (47 :: s))) (.string ⟨#[47]⟩) = some (.string (bs (47 :: (s ++ [47])))) := b_sadd (a := 47 :: s) (b := [47]) (by simp; omega)
  -- what comes behind
  have fin : ∀ {H1 : Heap}, Lg H1 → Keep (all H) H H1 → ¬ (1 + bringN x 13 = 1 ∧ isNameN s = true) → ¬ (1 + bringN x 13 = 2 ∧ isPathN s = true) → ¬ (1 + bringN x 13 = 3 ∧ isPatN s = true) →
      (4 < 1 + bringN x 13 → Cl 26 [.int .i64 (1 + bringN x 13)] H1 (.string (bs (writN x s).1)) H1 ∧ ((writN x s).2 : Int) = 1 + bringN x 13) ∧
      (¬ 4 < 1 + bringN x 13 → ∃ j : Nat, j < 4 ∧ bringN (Int.tdiv x 13) 4 = (j : Int) ∧ writN x s = ((signsN.drop j).take 1, 4)) := by
    intro H1 hL1 k c1 c2 c3
    constructor
    · intro c4
      have e : writN x s = (spelledN (1 + bringN x 13), (1 + bringN x 13).toNat) := by
        unfold writN; rw [if_neg c1, if_neg c2, if_neg c3, if_pos c4]
      rw [e]
      exact ⟨spelled_ok hL1 _, by simp only; omega⟩
    · intro c4
      obtain ⟨h3, h4⟩ := bring_in (i := Int.tdiv x 13) (n := 4) (by omega)
      refine ⟨(bringN (Int.tdiv x 13) 4).toNat, by omega, by omega, ?_⟩
      unfold writN; rw [if_neg c1, if_neg c2, if_neg c3, if_neg c4]
  have htd : inI (Int.tdiv x 13) := by
    obtain ⟨a, b⟩ := hx
    constructor
    · have := tmod_tdiv x 13
      have h5 := Int.lt_tmod_of_pos x (show (0 : Int) < 13 by omega)
      have h6 := Int.tmod_lt_of_pos x (show (0 : Int) < 13 by omega)
      omega
    · have := tmod_tdiv x 13
      have h5 := Int.lt_tmod_of_pos x (show (0 : Int) < 13 by omega)
      have h6 := Int.tmod_lt_of_pos x (show (0 : Int) < 13 by omega)
      omega
  have hq : binB Tryd.prog .quo 3 (.int .i64 x) (.int .i64 13) = some (.int .i64 (Int.tdiv x 13)) := by
    have e : IntKind.i64.wrap (Int.tdiv x 13) = Int.tdiv x 13 := wrap_i64 htd.1 htd.2
    simp [binB, intB, e]
  have sgn : ∀ {j : Nat}, j < 4 → slcStr (.string ⟨#[61, 59, 58, 124]⟩) (some (.int .i64 (j : Int))) none = some (.string (bs (signsN.drop j))) := fun h => bs_from (l := signsN) (by simp [signsN]; omega)
  have sgn1 : ∀ {j : Nat}, j < 4 → slcStr (.string (bs (signsN.drop j))) none (some (.int .i64 1)) = some (.string (bs ((signsN.drop j).take 1))) := fun h => bs_upto (l := signsN.drop _) (j := 1) (by simp [signsN]; omega)
  have e4 : ∀ z : Int, (z == 1) = decide (z = 1) := fun z => by rw [Bool.eq_iff_iff]; simp
  by_cases k1 : 1 + bringN x 13 = 1
  · have n1 := name_ok (l := s) hL (by omega)
    by_cases c1 : isNameN s = true
    · rw [c1] at n1
      have e : writN x s = (s, 1) := by unfold writN; rw [if_pos ⟨k1, c1⟩]
      refine ⟨H, ?_, Keep.refl _ _⟩
      rw [e]
      refine Ev.enter (fun n => f28_eq rfl n _ _ _) ?_
      simp only [f28, real_b, real_i, real_c, chk_t, bnd_some, bnd_up, iff_t, iff_f, gd_t, gd_f, wd_b, wd_u, pick_t, pick_f, b_lss, b_leq, b_gtr, b_geq, b_eql, b_neq, b_seql, b_sneq, b_add, b_sub, u_not, nilC_ptr, fAddr_ptr, Nat.zero_add, extr0, extr1, extr2, lenStr, decide_true, decide_false, bt_tt, bt_tf, bt_ft, bt_ff, bt_bne, Bool.not_true, Bool.not_false, Int.reduceBEq, Int.reduceBNe, extr30, extr31]
      refine Ev.callC c0 ?_
      have e1 : ((1 : Int) == 1) = true := rfl
      simp only [real_b, real_i, real_c, chk_t, bnd_some, bnd_up, iff_t, iff_f, gd_t, gd_f, wd_b, wd_u, pick_t, pick_f, b_lss, b_leq, b_gtr, b_geq, b_eql, b_neq, b_seql, b_sneq, b_add, b_sub, u_not, nilC_ptr, fAddr_ptr, Nat.zero_add, extr0, extr1, extr2, lenStr, decide_true, decide_false, bt_tt, bt_tf, bt_ft, bt_ff, bt_bne, Bool.not_true, Bool.not_false, Int.reduceBEq, Int.reduceBNe, extr30, extr31, hk, k1, e1]
      refine Ev.callC n1 ?_
      exact Ev.pure _
    · have c1' : isNameN s = false := by simpa using c1
      rw [c1'] at n1
      obtain ⟨_, g⟩ := fin hL (Keep.refl _ _) (fun h => c1 h.2) (fun h => by omega) (fun h => by omega)
      obtain ⟨j, j1, j2, j3⟩ := g (by omega)
      refine ⟨H, ?_, Keep.refl _ _⟩
      rw [j3]
      refine Ev.enter (fun n => f28_eq rfl n _ _ _) ?_
      simp only [f28, real_b, real_i, real_c, chk_t, bnd_some, bnd_up, iff_t, iff_f, gd_t, gd_f, wd_b, wd_u, pick_t, pick_f, b_lss, b_leq, b_gtr, b_geq, b_eql, b_neq, b_seql, b_sneq, b_add, b_sub, u_not, nilC_ptr, fAddr_ptr, Nat.zero_add, extr0, extr1, extr2, lenStr, decide_true, decide_false, bt_tt, bt_tf, bt_ft, bt_ff, bt_bne, Bool.not_true, Bool.not_false, Int.reduceBEq, Int.reduceBNe, extr30, extr31]
      refine Ev.callC c0 ?_
      have e1 : ((1 : Int) == 1) = true := rfl
      have e2 : ((1 : Int) == 2) = false := rfl
      have e3 : ((1 : Int) == 3) = false := rfl
      simp only [real_b, real_i, real_c, chk_t, bnd_some, bnd_up, iff_t, iff_f, gd_t, gd_f, wd_b, wd_u, pick_t, pick_f, b_lss, b_leq, b_gtr, b_geq, b_eql, b_neq, b_seql, b_sneq, b_add, b_sub, u_not, nilC_ptr, fAddr_ptr, Nat.zero_add, extr0, extr1, extr2, lenStr, decide_true, decide_false, bt_tt, bt_tf, bt_ft, bt_ff, bt_bne, Bool.not_true, Bool.not_false, Int.reduceBEq, Int.reduceBNe, extr30, extr31, hk, k1, e1, e2, e3]
      refine Ev.callC n1 ?_
      have e5 : ((1 : Int) > 4) = False := by simp
      simp only [real_b, real_i, real_c, chk_t, bnd_some, bnd_up, iff_t, iff_f, gd_t, gd_f, wd_b, wd_u, pick_t, pick_f, b_lss, b_leq, b_gtr, b_geq, b_eql, b_neq, b_seql, b_sneq, b_add, b_sub, u_not, nilC_ptr, fAddr_ptr, Nat.zero_add, extr0, extr1, extr2, lenStr, decide_true, decide_false, bt_tt, bt_tf, bt_ft, bt_ff, bt_bne, Bool.not_true, Bool.not_false, Int.reduceBEq, Int.reduceBNe, extr30, extr31, e5, hq]
      refine Ev.callC (bring_ok htd (n := 4) (by omega) H) ?_
      simp only [real_b, real_i, real_c, chk_t, bnd_some, bnd_up, iff_t, iff_f, gd_t, gd_f, wd_b, wd_u, pick_t, pick_f, b_lss, b_leq, b_gtr, b_geq, b_eql, b_neq, b_seql, b_sneq, b_add, b_sub, u_not, nilC_ptr, fAddr_ptr, Nat.zero_add, extr0, extr1, extr2, lenStr, decide_true, decide_false, bt_tt, bt_tf, bt_ft, bt_ff, bt_bne, Bool.not_true, Bool.not_false, Int.reduceBEq, Int.reduceBNe, extr30, extr31, j2, sgn j1, sgn1 j1]
      exact Ev.pure _
  by_cases k2 : 1 + bringN x 13 = 2
  · by_cases c1 : isPathN s = true
    · rw [c1] at p1
      have e : writN x s = (34 :: (s ++ [34]), 2) := by unfold writN; rw [if_neg (fun h => k1 h.1), if_pos ⟨k2, c1⟩]
      refine ⟨Hp, ?_, p2⟩
      rw [e]
      refine Ev.enter (fun n => f28_eq rfl n _ _ _) ?_
      simp only [f28, real_b, real_i, real_c, chk_t, bnd_some, bnd_up, iff_t, iff_f, gd_t, gd_f, wd_b, wd_u, pick_t, pick_f, b_lss, b_leq, b_gtr, b_geq, b_eql, b_neq, b_seql, b_sneq, b_add, b_sub, u_not, nilC_ptr, fAddr_ptr, Nat.zero_add, extr0, extr1, extr2, lenStr, decide_true, decide_false, bt_tt, bt_tf, bt_ft, bt_ff, bt_bne, Bool.not_true, Bool.not_false, Int.reduceBEq, Int.reduceBNe, extr30, extr31]
      refine Ev.callC c0 ?_
      have e1 : ((2 : Int) == 1) = false := rfl
      have e2 : ((2 : Int) == 2) = true := rfl
      simp only [real_b, real_i, real_c, chk_t, bnd_some, bnd_up, iff_t, iff_f, gd_t, gd_f, wd_b, wd_u, pick_t, pick_f, b_lss, b_leq, b_gtr, b_geq, b_eql, b_neq, b_seql, b_sneq, b_add, b_sub, u_not, nilC_ptr, fAddr_ptr, Nat.zero_add, extr0, extr1, extr2, lenStr, decide_true, decide_false, bt_tt, bt_tf, bt_ft, bt_ff, bt_bne, Bool.not_true, Bool.not_false, Int.reduceBEq, Int.reduceBNe, extr30, extr31, hk, k2, e1, e2]
      refine Ev.callC p1 ?_
      simp only [real_b, real_i, real_c, chk_t, bnd_some, bnd_up, iff_t, iff_f, gd_t, gd_f, wd_b, wd_u, pick_t, pick_f, b_lss, b_leq, b_gtr, b_geq, b_eql, b_neq, b_seql, b_sneq, b_add, b_sub, u_not, nilC_ptr, fAddr_ptr, Nat.zero_add, extr0, extr1, extr2, lenStr, decide_true, decide_false, bt_tt, bt_tf, bt_ft, bt_ff, bt_bne, Bool.not_true, Bool.not_false, Int.reduceBEq, Int.reduceBNe, extr30, extr31, q34, q34']
      exact Ev.pure _
    · have c1' : isPathN s = false := by simpa using c1
      rw [c1'] at p1
      obtain ⟨_, g⟩ := fin (Box.up hL p2) p2 (fun h => k1 h.1) (fun h => c1 h.2) (fun h => by omega)
      obtain ⟨j, j1, j2, j3⟩ := g (by omega)
      refine ⟨Hp, ?_, p2⟩
      rw [j3]
      refine Ev.enter (fun n => f28_eq rfl n _ _ _) ?_
      simp only [f28, real_b, real_i, real_c, chk_t, bnd_some, bnd_up, iff_t, iff_f, gd_t, gd_f, wd_b, wd_u, pick_t, pick_f, b_lss, b_leq, b_gtr, b_geq, b_eql, b_neq, b_seql, b_sneq, b_add, b_sub, u_not, nilC_ptr, fAddr_ptr, Nat.zero_add, extr0, extr1, extr2, lenStr, decide_true, decide_false, bt_tt, bt_tf, bt_ft, bt_ff, bt_bne, Bool.not_true, Bool.not_false, Int.reduceBEq, Int.reduceBNe, extr30, extr31]
      refine Ev.callC c0 ?_
      have e1 : ((2 : Int) == 1) = false := rfl
      have e2 : ((2 : Int) == 2) = true := rfl
      have e3 : ((2 : Int) == 3) = false := rfl
      simp only [real_b, real_i, real_c, chk_t, bnd_some, bnd_up, iff_t, iff_f, gd_t, gd_f, wd_b, wd_u, pick_t, pick_f, b_lss, b_leq, b_gtr, b_geq, b_eql, b_neq, b_seql, b_sneq, b_add, b_sub, u_not, nilC_ptr, fAddr_ptr, Nat.zero_add, extr0, extr1, extr2, lenStr, decide_true, decide_false, bt_tt, bt_tf, bt_ft, bt_ff, bt_bne, Bool.not_true, Bool.not_false, Int.reduceBEq, Int.reduceBNe, extr30, extr31, hk, k2, e1, e2, e3]
      refine Ev.callC p1 ?_
      have e5 : ((2 : Int) > 4) = False := by simp
      simp only [real_b, real_i, real_c, chk_t, bnd_some, bnd_up, iff_t, iff_f, gd_t, gd_f, wd_b, wd_u, pick_t, pick_f, b_lss, b_leq, b_gtr, b_geq, b_eql, b_neq, b_seql, b_sneq, b_add, b_sub, u_not, nilC_ptr, fAddr_ptr, Nat.zero_add, extr0, extr1, extr2, lenStr, decide_true, decide_false, bt_tt, bt_tf, bt_ft, bt_ff, bt_bne, Bool.not_true, Bool.not_false, Int.reduceBEq, Int.reduceBNe, extr30, extr31, e5, hq]
      refine Ev.callC (bring_ok htd (n := 4) (by omega) Hp) ?_
      simp only [real_b, real_i, real_c, chk_t, bnd_some, bnd_up, iff_t, iff_f, gd_t, gd_f, wd_b, wd_u, pick_t, pick_f, b_lss, b_leq, b_gtr, b_geq, b_eql, b_neq, b_seql, b_sneq, b_add, b_sub, u_not, nilC_ptr, fAddr_ptr, Nat.zero_add, extr0, extr1, extr2, lenStr, decide_true, decide_false, bt_tt, bt_tf, bt_ft, bt_ff, bt_bne, Bool.not_true, Bool.not_false, Int.reduceBEq, Int.reduceBNe, extr30, extr31, j2, sgn j1, sgn1 j1]
      exact Ev.pure _
  by_cases k3 : 1 + bringN x 13 = 3
  · have n1 := pat_ok (l := s) H (by omega)
    by_cases c1 : isPatN s = true
    · rw [c1] at n1
      have e : writN x s = (47 :: (s ++ [47]), 3) := by unfold writN; rw [if_neg (fun h => k1 h.1), if_neg (fun h => k2 h.1), if_pos ⟨k3, c1⟩]
      refine ⟨H, ?_, Keep.refl _ _⟩
      rw [e]
      refine Ev.enter (fun n => f28_eq rfl n _ _ _) ?_
      simp only [f28, real_b, real_i, real_c, chk_t, bnd_some, bnd_up, iff_t, iff_f, gd_t, gd_f, wd_b, wd_u, pick_t, pick_f, b_lss, b_leq, b_gtr, b_geq, b_eql, b_neq, b_seql, b_sneq, b_add, b_sub, u_not, nilC_ptr, fAddr_ptr, Nat.zero_add, extr0, extr1, extr2, lenStr, decide_true, decide_false, bt_tt, bt_tf, bt_ft, bt_ff, bt_bne, Bool.not_true, Bool.not_false, Int.reduceBEq, Int.reduceBNe, extr30, extr31]
      refine Ev.callC c0 ?_
      have e1 : ((3 : Int) == 1) = false := rfl
      have e2 : ((3 : Int) == 2) = false := rfl
      have e3 : ((3 : Int) == 3) = true := rfl
      simp only [real_b, real_i, real_c, chk_t, bnd_some, bnd_up, iff_t, iff_f, gd_t, gd_f, wd_b, wd_u, pick_t, pick_f, b_lss, b_leq, b_gtr, b_geq, b_eql, b_neq, b_seql, b_sneq, b_add, b_sub, u_not, nilC_ptr, fAddr_ptr, Nat.zero_add, extr0, extr1, extr2, lenStr, decide_true, decide_false, bt_tt, bt_tf, bt_ft, bt_ff, bt_bne, Bool.not_true, Bool.not_false, Int.reduceBEq, Int.reduceBNe, extr30, extr31, hk, k3, e1, e2, e3]
      refine Ev.callC n1 ?_
      simp only [real_b, real_i, real_c, chk_t, bnd_some, bnd_up, iff_t, iff_f, gd_t, gd_f, wd_b, wd_u, pick_t, pick_f, b_lss, b_leq, b_gtr, b_geq, b_eql, b_neq, b_seql, b_sneq, b_add, b_sub, u_not, nilC_ptr, fAddr_ptr, Nat.zero_add, extr0, extr1, extr2, lenStr, decide_true, decide_false, bt_tt, bt_tf, bt_ft, bt_ff, bt_bne, Bool.not_true, Bool.not_false, Int.reduceBEq, Int.reduceBNe, extr30, extr31, q47, q47']
      exact Ev.pure _
    · have c1' : isPatN s = false := by simpa using c1
      rw [c1'] at n1
      obtain ⟨_, g⟩ := fin hL (Keep.refl _ _) (fun h => k1 h.1) (fun h => k2 h.1) (fun h => c1 h.2)
      obtain ⟨j, j1, j2, j3⟩ := g (by omega)
      refine ⟨H, ?_, Keep.refl _ _⟩
      rw [j3]
      refine Ev.enter (fun n => f28_eq rfl n _ _ _) ?_
      simp only [f28, real_b, real_i, real_c, chk_t, bnd_some, bnd_up, iff_t, iff_f, gd_t, gd_f, wd_b, wd_u, pick_t, pick_f, b_lss, b_leq, b_gtr, b_geq, b_eql, b_neq, b_seql, b_sneq, b_add, b_sub, u_not, nilC_ptr, fAddr_ptr, Nat.zero_add, extr0, extr1, extr2, lenStr, decide_true, decide_false, bt_tt, bt_tf, bt_ft, bt_ff, bt_bne, Bool.not_true, Bool.not_false, Int.reduceBEq, Int.reduceBNe, extr30, extr31]
      refine Ev.callC c0 ?_
      have e1 : ((3 : Int) == 1) = false := rfl
      have e2 : ((3 : Int) == 2) = false := rfl
      have e3 : ((3 : Int) == 3) = true := rfl
      simp only [real_b, real_i, real_c, chk_t, bnd_some, bnd_up, iff_t, iff_f, gd_t, gd_f, wd_b, wd_u, pick_t, pick_f, b_lss, b_leq, b_gtr, b_geq, b_eql, b_neq, b_seql, b_sneq, b_add, b_sub, u_not, nilC_ptr, fAddr_ptr, Nat.zero_add, extr0, extr1, extr2, lenStr, decide_true, decide_false, bt_tt, bt_tf, bt_ft, bt_ff, bt_bne, Bool.not_true, Bool.not_false, Int.reduceBEq, Int.reduceBNe, extr30, extr31, hk, k3, e1, e2, e3]
      refine Ev.callC n1 ?_
      have e5 : ((3 : Int) > 4) = False := by simp
      simp only [real_b, real_i, real_c, chk_t, bnd_some, bnd_up, iff_t, iff_f, gd_t, gd_f, wd_b, wd_u, pick_t, pick_f, b_lss, b_leq, b_gtr, b_geq, b_eql, b_neq, b_seql, b_sneq, b_add, b_sub, u_not, nilC_ptr, fAddr_ptr, Nat.zero_add, extr0, extr1, extr2, lenStr, decide_true, decide_false, bt_tt, bt_tf, bt_ft, bt_ff, bt_bne, Bool.not_true, Bool.not_false, Int.reduceBEq, Int.reduceBNe, extr30, extr31, e5, hq]
      refine Ev.callC (bring_ok htd (n := 4) (by omega) H) ?_
      simp only [real_b, real_i, real_c, chk_t, bnd_some, bnd_up, iff_t, iff_f, gd_t, gd_f, wd_b, wd_u, pick_t, pick_f, b_lss, b_leq, b_gtr, b_geq, b_eql, b_neq, b_seql, b_sneq, b_add, b_sub, u_not, nilC_ptr, fAddr_ptr, Nat.zero_add, extr0, extr1, extr2, lenStr, decide_true, decide_false, bt_tt, bt_tf, bt_ft, bt_ff, bt_bne, Bool.not_true, Bool.not_false, Int.reduceBEq, Int.reduceBNe, extr30, extr31, j2, sgn j1, sgn1 j1]
      exact Ev.pure _
  have z1 : ((1 + bringN x 13) == 1) = false := by simpa using k1
  have z2 : ((1 + bringN x 13) == 2) = false := by simpa using k2
  have z3 : ((1 + bringN x 13) == 3) = false := by simpa using k3
  obtain ⟨g1, g2⟩ := fin hL (Keep.refl _ _) (fun h => k1 h.1) (fun h => k2 h.1) (fun h => k3 h.1)
  refine ⟨H, ?_, Keep.refl _ _⟩
  by_cases k4 : 4 < 1 + bringN x 13
  · obtain ⟨m1, m2⟩ := g1 k4
    rw [m2]
    refine Ev.enter (fun n => f28_eq rfl n _ _ _) ?_
    simp only [f28, real_b, real_i, real_c, chk_t, bnd_some, bnd_up, iff_t, iff_f, gd_t, gd_f, wd_b, wd_u, pick_t, pick_f, b_lss, b_leq, b_gtr, b_geq, b_eql, b_neq, b_seql, b_sneq, b_add, b_sub, u_not, nilC_ptr, fAddr_ptr, Nat.zero_add, extr0, extr1, extr2, lenStr, decide_true, decide_false, bt_tt, bt_tf, bt_ft, bt_ff, bt_bne, Bool.not_true, Bool.not_false, Int.reduceBEq, Int.reduceBNe, extr30, extr31]
    refine Ev.callC c0 ?_
    have z5 : ((1 + bringN x 13) > 4) = True := eq_true k4
    simp only [real_b, real_i, real_c, chk_t, bnd_some, bnd_up, iff_t, iff_f, gd_t, gd_f, wd_b, wd_u, pick_t, pick_f, b_lss, b_leq, b_gtr, b_geq, b_eql, b_neq, b_seql, b_sneq, b_add, b_sub, u_not, nilC_ptr, fAddr_ptr, Nat.zero_add, extr0, extr1, extr2, lenStr, decide_true, decide_false, bt_tt, bt_tf, bt_ft, bt_ff, bt_bne, Bool.not_true, Bool.not_false, Int.reduceBEq, Int.reduceBNe, extr30, extr31, hk, z1, z2, z3, z5]
    refine Ev.callC m1 ?_
    exact Ev.pure _
  · obtain ⟨j, j1, j2, j3⟩ := g2 k4
    rw [j3]
    refine Ev.enter (fun n => f28_eq rfl n _ _ _) ?_
    simp only [f28, real_b, real_i, real_c, chk_t, bnd_some, bnd_up, iff_t, iff_f, gd_t, gd_f, wd_b, wd_u, pick_t, pick_f, b_lss, b_leq, b_gtr, b_geq, b_eql, b_neq, b_seql, b_sneq, b_add, b_sub, u_not, nilC_ptr, fAddr_ptr, Nat.zero_add, extr0, extr1, extr2, lenStr, decide_true, decide_false, bt_tt, bt_tf, bt_ft, bt_ff, bt_bne, Bool.not_true, Bool.not_false, Int.reduceBEq, Int.reduceBNe, extr30, extr31]
    refine Ev.callC c0 ?_
    have z5 : ((1 + bringN x 13) > 4) = False := eq_false k4
    simp only [real_b, real_i, real_c, chk_t, bnd_some, bnd_up, iff_t, iff_f, gd_t, gd_f, wd_b, wd_u, pick_t, pick_f, b_lss, b_leq, b_gtr, b_geq, b_eql, b_neq, b_seql, b_sneq, b_add, b_sub, u_not, nilC_ptr, fAddr_ptr, Nat.zero_add, extr0, extr1, extr2, lenStr, decide_true, decide_false, bt_tt, bt_tf, bt_ft, bt_ff, bt_bne, Bool.not_true, Bool.not_false, Int.reduceBEq, Int.reduceBNe, extr30, extr31, hk, z1, z2, z3, z5, hq]
    refine Ev.callC (bring_ok htd (n := 4) (by omega) H) ?_
    simp only [real_b, real_i, real_c, chk_t, bnd_some, bnd_up, iff_t, iff_f, gd_t, gd_f, wd_b, wd_u, pick_t, pick_f, b_lss, b_leq, b_gtr, b_geq, b_eql, b_neq, b_seql, b_sneq, b_add, b_sub, u_not, nilC_ptr, fAddr_ptr, Nat.zero_add, extr0, extr1, extr2, lenStr, decide_true, decide_false, bt_tt, bt_tf, bt_ft, bt_ff, bt_bne, Bool.not_true, Bool.not_false, Int.reduceBEq, Int.reduceBNe, extr30, extr31, j2, sgn j1, sgn1 j1]
    exact Ev.pure _
end Go.Eng
