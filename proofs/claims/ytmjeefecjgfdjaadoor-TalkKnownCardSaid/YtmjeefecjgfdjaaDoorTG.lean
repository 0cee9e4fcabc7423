/- May a request be, may a reply be? -/
import Derived.Test.YtmjeefecjgfdjaaDoorTF
set_option linter.unusedVariables false
set_option linter.unusedSimpArgs false
namespace Go.Eng
open Go Go.Proofs

/-- A request, a reply, as they stand. -/
abbrev rqV (k : Int) (l : List UInt8) (w : Value) : Value := .agg #[.int .i64 k, .string (bs l), w]
abbrev rpV (k e a : Int) (l : List UInt8) (w : Value) : Value := .agg #[.int .i64 k, .int .i64 e, .int .i64 a, .string (bs l), w]
theorem Sl.oneC {R : Nat → Prop} {H : Heap} {sz n : Nat} {v : Value} {cs : List Value} (h : Sl R H sz v n cs) : Eng.oneC v = true ∧ v.cells = #[v] := by
  rcases h with ⟨rfl, _⟩ | ⟨b, o, sp, cap, rfl, _⟩ | ⟨b, o, sp, cap, blk, rfl, _⟩ <;> exact ⟨rfl, rfl⟩
theorem rq_cells {k : Int} {l : List UInt8} {w : Value} (h : w.cells = #[w]) : (rqV k l w).cells.toList = [.int .i64 k, .string (bs l), w] := by
  simp [Value.cells, h]
theorem rp_cells {k e a : Int} {l : List UInt8} {w : Value} (h : w.cells = #[w]) : (rpV k e a l w).cells.toList = [.int .i64 k, .int .i64 e, .int .i64 a, .string (bs l), w] := by
  simp [Value.cells, h]
theorem rq_new {H : Heap} {k : Int} {l : List UInt8} {w : Value} (h : Eng.oneC w = true ∧ w.cells = #[w]) : newV (rqV k l w).cells.toList H = some (ptr H.n 0, H.push ⟨[.int .i64 k, .string (bs l), w], 1, true⟩) := by
  rw [rq_cells h.2]
  exact newV_box (by simp [h.1]; exact ⟨rfl, rfl⟩)
theorem rp_new {H : Heap} {k e a : Int} {l : List UInt8} {w : Value} (h : Eng.oneC w = true ∧ w.cells = #[w]) : newV (rpV k e a l w).cells.toList H = some (ptr H.n 0, H.push ⟨[.int .i64 k, .int .i64 e, .int .i64 a, .string (bs l), w], 1, true⟩) := by
  rw [rp_cells h.2]
  exact newV_box (by simp [h.1]; exact ⟨rfl, rfl, rfl, rfl⟩)

/-- May a request be? -/
def ckA (k : Int) (l : List UInt8) (n : Nat) : Int :=
  if 8192 < n then 5 else if (if k = 6 ∨ k = 7 then decide (l = []) else isP l) && (if k = 1 ∨ k = 5 then true else if 2 ≤ k ∧ k ≤ 7 then decide (n = 0) else false) then 0 else 2
/-- May a reply be? -/
def ckB (k e a : Int) (l : List UInt8) (n : Nat) : Int :=
  if 32 < l.length ∨ 262144 < n then 5 else if k < 0 ∨ 7 < k ∨ e < 0 ∨ 999 < e ∨ a < 0 ∨ 9007199254740991 < a then 2 else 0

section
variable {R : Nat → Prop} {H : Heap} {b n : Nat} {k : Int} {l : List UInt8} {w : Value}
theorem ask_J1 (hb : Box R H b [.int .i64 k, .string (bs l), w]) (hw : lenS w = some (.int .i64 (n : Int))) {p q : Bool} {m : Nat} :
    f14_J1 real (AC m) m (ptr b 0) (.bool p) (.bool q) H = some (.int .i64 (if 8192 < n then 5 else if p && q then 0 else 2), H) := by
  have ld := hb.ld (k := 2) (v := w) rfl
  by_cases h : 8192 < n
  · have e : ((n : Int) > 8192) = True := by simp; omega
    simp only [f14_J1, real_b, real_i, real_c, chk_t, bnd_some, bnd_up, iff_t, iff_f, gd_t, gd_f, wd_b, wd_u, pick_t, pick_f, b_lss, b_leq, b_gtr, b_geq, b_eql, b_neq, b_seql, b_sneq, b_add, b_sub, u_not, nilC_ptr, fAddr_ptr, Nat.zero_add, extr0, extr1, extr2, lenStr, decide_true, decide_false, bt_tt, bt_tf, bt_ft, bt_ff, bt_bne, Bool.not_true, Bool.not_false, Int.reduceBEq, Int.reduceBNe, extr30, extr31, ld, hw, e, h, if_true]
  · have e : ((n : Int) > 8192) = False := by simp; omega
    cases p <;> cases q <;> simp only [f14_J1, real_b, real_i, real_c, chk_t, bnd_some, bnd_up, iff_t, iff_f, gd_t, gd_f, wd_b, wd_u, pick_t, pick_f, b_lss, b_leq, b_gtr, b_geq, b_eql, b_neq, b_seql, b_sneq, b_add, b_sub, u_not, nilC_ptr, fAddr_ptr, Nat.zero_add, extr0, extr1, extr2, lenStr, decide_true, decide_false, bt_tt, bt_tf, bt_ft, bt_ff, bt_bne, Bool.not_true, Bool.not_false, Int.reduceBEq, Int.reduceBNe, extr30, extr31, ld, hw, e, h, if_false, if_true, Bool.and_self, Bool.and_true, Bool.and_false, Bool.false_eq_true]
theorem ask_J2 (hb : Box R H b [.int .i64 k, .string (bs l), w]) (hw : lenS w = some (.int .i64 (n : Int))) {p : Bool} {m : Nat} :
    f14_J2 real (AC m) m (ptr b 0) (.bool p) H = some (.int .i64 (if 8192 < n then 5 else if p && decide (n = 0) then 0 else 2), H) := by
  have ld := hb.ld (k := 2) (v := w) rfl
  have e : ((n : Int) == 0) = decide (n = 0) := by
    by_cases h : n = 0
    · subst h; rfl
    · rw [decide_eq_false h]; simpa using h
  simp only [f14_J2, real_b, real_i, real_c, chk_t, bnd_some, bnd_up, iff_t, iff_f, gd_t, gd_f, wd_b, wd_u, pick_t, pick_f, b_lss, b_leq, b_gtr, b_geq, b_eql, b_neq, b_seql, b_sneq, b_add, b_sub, u_not, nilC_ptr, fAddr_ptr, Nat.zero_add, extr0, extr1, extr2, lenStr, decide_true, decide_false, bt_tt, bt_tf, bt_ft, bt_ff, bt_bne, Bool.not_true, Bool.not_false, Int.reduceBEq, Int.reduceBNe, extr30, extr31, ld, hw, e, ask_J1 hb hw]
end
theorem ask_may {H : Heap} {k : Int} {l : List UInt8} {w : Value} {n : Nat} {cs : List Value} (hw : Sl (all H) H 1 w n cs) (hl : l.length < 9223372036854775807) :
    ∃ H', Cl 14 [rqV k l w] H (.int .i64 (ckA k l n)) H' ∧ Keep (all H) H H' := by
  have k1 : Keep (all H) H (H.push ⟨[.int .i64 k, .string (bs l), w], 1, true⟩) := push_keep
  obtain ⟨H', g1, g2⟩ := isP_ok (H := H.push ⟨[.int .i64 k, .string (bs l), w], 1, true⟩) hl
  have hb : Box (all (H.push ⟨[.int .i64 k, .string (bs l), w], 1, true⟩)) (H.push ⟨[.int .i64 k, .string (bs l), w], 1, true⟩) H.n [.int .i64 k, .string (bs l), w] := push_boxA
  have hb' := hb.keep g2
  have l1 := hb.ld (k := 1) (v := .string (bs l)) rfl
  have l0 := hb'.ld (k := 0) (v := .int .i64 k) rfl
  have l1' := hb'.ld (k := 1) (v := .string (bs l)) rfl
  refine ⟨H', ?_, k1.tr g2⟩
  refine Ev.enter (fun n => f14_eq rfl n _ _) ?_
  simp only [f14, real_b, real_i, real_c, chk_t, bnd_some, bnd_up, iff_t, iff_f, gd_t, gd_f, wd_b, wd_u, pick_t, pick_f, b_lss, b_leq, b_gtr, b_geq, b_eql, b_neq, b_seql, b_sneq, b_add, b_sub, u_not, nilC_ptr, fAddr_ptr, Nat.zero_add, extr0, extr1, extr2, lenStr, decide_true, decide_false, bt_tt, bt_tf, bt_ft, bt_ff, bt_bne, Bool.not_true, Bool.not_false, Int.reduceBEq, Int.reduceBNe, extr30, extr31, rq_new hw.oneC, l1]
  refine Ev.callC g1 ?_
  simp only [real_b, real_i, real_c, chk_t, bnd_some, bnd_up, iff_t, iff_f, gd_t, gd_f, wd_b, wd_u, pick_t, pick_f, b_lss, b_leq, b_gtr, b_geq, b_eql, b_neq, b_seql, b_sneq, b_add, b_sub, u_not, nilC_ptr, fAddr_ptr, Nat.zero_add, extr0, extr1, extr2, lenStr, decide_true, decide_false, bt_tt, bt_tf, bt_ft, bt_ff, bt_bne, Bool.not_true, Bool.not_false, Int.reduceBEq, Int.reduceBNe, extr30, extr31, l0]
  have J1 : ∀ (p q : Bool) (m : Nat), f14_J1 real (AC m) m (ptr H.n 0) (.bool p) (.bool q) H' = some (.int .i64 (if 8192 < n then 5 else if p && q then 0 else 2), H') := fun p q m => ask_J1 hb' hw.lenS
  have J2 : ∀ (p : Bool) (m : Nat), f14_J2 real (AC m) m (ptr H.n 0) (.bool p) H' = some (.int .i64 (if 8192 < n then 5 else if p && decide (n = 0) then 0 else 2), H') := fun p m => ask_J2 hb' hw.lenS
  by_cases h1 : k = 1
  · subst h1
    simp only [f14_J5, real_b, real_i, real_c, chk_t, bnd_some, bnd_up, iff_t, iff_f, gd_t, gd_f, wd_b, wd_u, pick_t, pick_f, b_lss, b_leq, b_gtr, b_geq, b_eql, b_neq, b_seql, b_sneq, b_add, b_sub, u_not, nilC_ptr, fAddr_ptr, Nat.zero_add, extr0, extr1, extr2, lenStr, decide_true, decide_false, bt_tt, bt_tf, bt_ft, bt_ff, bt_bne, Bool.not_true, Bool.not_false, Int.reduceBEq, Int.reduceBNe, extr30, extr31, J1]
    exact Ev.pure _
  by_cases h5 : k = 5
  · subst h5
    simp only [f14_J5, real_b, real_i, real_c, chk_t, bnd_some, bnd_up, iff_t, iff_f, gd_t, gd_f, wd_b, wd_u, pick_t, pick_f, b_lss, b_leq, b_gtr, b_geq, b_eql, b_neq, b_seql, b_sneq, b_add, b_sub, u_not, nilC_ptr, fAddr_ptr, Nat.zero_add, extr0, extr1, extr2, lenStr, decide_true, decide_false, bt_tt, bt_tf, bt_ft, bt_ff, bt_bne, Bool.not_true, Bool.not_false, Int.reduceBEq, Int.reduceBNe, extr30, extr31, J1]
    exact Ev.pure _
  have e1 : (k == 1) = false := by simpa using h1
  have e5 : (k == 5) = false := by simpa using h5
  by_cases h6 : k = 6
  · subst h6
    simp only [f14_J5, f14_J4, real_b, real_i, real_c, chk_t, bnd_some, bnd_up, iff_t, iff_f, gd_t, gd_f, wd_b, wd_u, pick_t, pick_f, b_lss, b_leq, b_gtr, b_geq, b_eql, b_neq, b_seql, b_sneq, b_add, b_sub, u_not, nilC_ptr, fAddr_ptr, Nat.zero_add, extr0, extr1, extr2, lenStr, decide_true, decide_false, bt_tt, bt_tf, bt_ft, bt_ff, bt_bne, Bool.not_true, Bool.not_false, Int.reduceBEq, Int.reduceBNe, extr30, extr31, J2, l1', e_empty', e1, e5]
    exact Ev.pure _
  have e6 : (k == 6) = false := by simpa using h6
  by_cases h7 : k = 7
  · subst h7
    simp only [f14_J5, f14_J4, real_b, real_i, real_c, chk_t, bnd_some, bnd_up, iff_t, iff_f, gd_t, gd_f, wd_b, wd_u, pick_t, pick_f, b_lss, b_leq, b_gtr, b_geq, b_eql, b_neq, b_seql, b_sneq, b_add, b_sub, u_not, nilC_ptr, fAddr_ptr, Nat.zero_add, extr0, extr1, extr2, lenStr, decide_true, decide_false, bt_tt, bt_tf, bt_ft, bt_ff, bt_bne, Bool.not_true, Bool.not_false, Int.reduceBEq, Int.reduceBNe, extr30, extr31, J2, l1', e_empty', e1, e5]
    exact Ev.pure _
  have e7 : (k == 7) = false := by simpa using h7
  by_cases h2 : k = 2
  · subst h2
    simp only [f14_J5, f14_J4, f14_J3, real_b, real_i, real_c, chk_t, bnd_some, bnd_up, iff_t, iff_f, gd_t, gd_f, wd_b, wd_u, pick_t, pick_f, b_lss, b_leq, b_gtr, b_geq, b_eql, b_neq, b_seql, b_sneq, b_add, b_sub, u_not, nilC_ptr, fAddr_ptr, Nat.zero_add, extr0, extr1, extr2, lenStr, decide_true, decide_false, bt_tt, bt_tf, bt_ft, bt_ff, bt_bne, Bool.not_true, Bool.not_false, Int.reduceBEq, Int.reduceBNe, extr30, extr31, J2, e1, e5]
    exact Ev.pure _
  have e2 : (k == 2) = false := by simpa using h2
  by_cases h3 : k = 3
  · subst h3
    simp only [f14_J5, f14_J4, f14_J3, real_b, real_i, real_c, chk_t, bnd_some, bnd_up, iff_t, iff_f, gd_t, gd_f, wd_b, wd_u, pick_t, pick_f, b_lss, b_leq, b_gtr, b_geq, b_eql, b_neq, b_seql, b_sneq, b_add, b_sub, u_not, nilC_ptr, fAddr_ptr, Nat.zero_add, extr0, extr1, extr2, lenStr, decide_true, decide_false, bt_tt, bt_tf, bt_ft, bt_ff, bt_bne, Bool.not_true, Bool.not_false, Int.reduceBEq, Int.reduceBNe, extr30, extr31, J2, e1, e5]
    exact Ev.pure _
  have e3 : (k == 3) = false := by simpa using h3
  by_cases h4 : k = 4
  · subst h4
    simp only [f14_J5, f14_J4, f14_J3, real_b, real_i, real_c, chk_t, bnd_some, bnd_up, iff_t, iff_f, gd_t, gd_f, wd_b, wd_u, pick_t, pick_f, b_lss, b_leq, b_gtr, b_geq, b_eql, b_neq, b_seql, b_sneq, b_add, b_sub, u_not, nilC_ptr, fAddr_ptr, Nat.zero_add, extr0, extr1, extr2, lenStr, decide_true, decide_false, bt_tt, bt_tf, bt_ft, bt_ff, bt_bne, Bool.not_true, Bool.not_false, Int.reduceBEq, Int.reduceBNe, extr30, extr31, J2, e1, e5]
    exact Ev.pure _
  have e4 : (k == 4) = false := by simpa using h4
  simp only [f14_J5, f14_J4, f14_J3, real_b, real_i, real_c, chk_t, bnd_some, bnd_up, iff_t, iff_f, gd_t, gd_f, wd_b, wd_u, pick_t, pick_f, b_lss, b_leq, b_gtr, b_geq, b_eql, b_neq, b_seql, b_sneq, b_add, b_sub, u_not, nilC_ptr, fAddr_ptr, Nat.zero_add, extr0, extr1, extr2, lenStr, decide_true, decide_false, bt_tt, bt_tf, bt_ft, bt_ff, bt_bne, Bool.not_true, Bool.not_false, Int.reduceBEq, Int.reduceBNe, extr30, extr31, J1, e1, e2, e3, e4, e5, e6, e7]
  have hn : ckA k l n = if 8192 < n then 5 else if isP l && false then 0 else 2 := by
    unfold ckA
    rw [if_neg (by omega : ¬ (k = 6 ∨ k = 7)), if_neg (by omega : ¬ (k = 1 ∨ k = 5)), if_neg (by omega : ¬ (2 ≤ k ∧ k ≤ 7))]
  rw [hn]
  exact Ev.pure _

/-! ### by the reference -/
section
variable {R : Nat → Prop} {H : Heap} {b n : Nat} {k : Int} {l : List UInt8} {w : Value}
theorem rask_J1 {p : Bool} {m : Nat} : f15_J1 real (AC m) m (.bool p) H = some (.int .i64 (if p then 0 else 2), H) := by
  cases p <;> simp only [f15_J1, real_b, real_i, real_c, chk_t, bnd_some, bnd_up, iff_t, iff_f, gd_t, gd_f, wd_b, wd_u, pick_t, pick_f, b_lss, b_leq, b_gtr, b_geq, b_eql, b_neq, b_seql, b_sneq, b_add, b_sub, u_not, nilC_ptr, fAddr_ptr, Nat.zero_add, extr0, extr1, extr2, lenStr, decide_true, decide_false, bt_tt, bt_tf, bt_ft, bt_ff, bt_bne, Bool.not_true, Bool.not_false, Int.reduceBEq, Int.reduceBNe, extr30, extr31, if_true, if_false, Bool.false_eq_true]
theorem rask_J2 (hb : Box R H b [.int .i64 k, .string (bs l), w]) (hw : lenS w = some (.int .i64 (n : Int))) {p : Bool} {m : Nat} :
    f15_J2 real (AC m) m (ptr b 0) (.bool p) H = some (.int .i64 (if p && (decide (k = 1 ∨ k = 5) || decide (n = 0)) then 0 else 2), H) := by
  have l0 := hb.ld (k := 0) (v := .int .i64 k) rfl
  have ld := hb.ld (k := 2) (v := w) rfl
  have e : ((n : Int) == 0) = decide (n = 0) := by
    by_cases h : n = 0
    · subst h; rfl
    · rw [decide_eq_false h]; simpa using h
  by_cases h1 : k = 1
  · subst h1
    simp only [f15_J2, real_b, real_i, real_c, chk_t, bnd_some, bnd_up, iff_t, iff_f, gd_t, gd_f, wd_b, wd_u, pick_t, pick_f, b_lss, b_leq, b_gtr, b_geq, b_eql, b_neq, b_seql, b_sneq, b_add, b_sub, u_not, nilC_ptr, fAddr_ptr, Nat.zero_add, extr0, extr1, extr2, lenStr, decide_true, decide_false, bt_tt, bt_tf, bt_ft, bt_ff, bt_bne, Bool.not_true, Bool.not_false, Int.reduceBEq, Int.reduceBNe, extr30, extr31, l0, rask_J1]
    cases p <;> simp
  have e1 : (k != 1) = true := by simpa using h1
  by_cases h5 : k = 5
  · subst h5
    simp only [f15_J2, real_b, real_i, real_c, chk_t, bnd_some, bnd_up, iff_t, iff_f, gd_t, gd_f, wd_b, wd_u, pick_t, pick_f, b_lss, b_leq, b_gtr, b_geq, b_eql, b_neq, b_seql, b_sneq, b_add, b_sub, u_not, nilC_ptr, fAddr_ptr, Nat.zero_add, extr0, extr1, extr2, lenStr, decide_true, decide_false, bt_tt, bt_tf, bt_ft, bt_ff, bt_bne, Bool.not_true, Bool.not_false, Int.reduceBEq, Int.reduceBNe, extr30, extr31, l0, e1, rask_J1]
    cases p <;> simp
  have e5 : (k != 5) = true := by simpa using h5
  have hh : decide (k = 1 ∨ k = 5) = false := decide_eq_false (by omega)
  rw [hh, Bool.false_or]
  cases p
  · simp only [f15_J2, real_b, real_i, real_c, chk_t, bnd_some, bnd_up, iff_t, iff_f, gd_t, gd_f, wd_b, wd_u, pick_t, pick_f, b_lss, b_leq, b_gtr, b_geq, b_eql, b_neq, b_seql, b_sneq, b_add, b_sub, u_not, nilC_ptr, fAddr_ptr, Nat.zero_add, extr0, extr1, extr2, lenStr, decide_true, decide_false, bt_tt, bt_tf, bt_ft, bt_ff, bt_bne, Bool.not_true, Bool.not_false, Int.reduceBEq, Int.reduceBNe, extr30, extr31, l0, e1, e5, rask_J1, Bool.false_and]
  · simp only [f15_J2, real_b, real_i, real_c, chk_t, bnd_some, bnd_up, iff_t, iff_f, gd_t, gd_f, wd_b, wd_u, pick_t, pick_f, b_lss, b_leq, b_gtr, b_geq, b_eql, b_neq, b_seql, b_sneq, b_add, b_sub, u_not, nilC_ptr, fAddr_ptr, Nat.zero_add, extr0, extr1, extr2, lenStr, decide_true, decide_false, bt_tt, bt_tf, bt_ft, bt_ff, bt_bne, Bool.not_true, Bool.not_false, Int.reduceBEq, Int.reduceBNe, extr30, extr31, l0, e1, e5, ld, hw, e, rask_J1, Bool.true_and]
end
theorem rask_may {H : Heap} {k : Int} {l : List UInt8} {w : Value} {n : Nat} {cs : List Value} (hw : Sl (all H) H 1 w n cs) (hl : l.length < 9223372036854775807) :
    ∃ H', Cl 15 [rqV k l w] H (.int .i64 (ckA k l n)) H' ∧ Keep (all H) H H' := by
  have k1 : Keep (all H) H (H.push ⟨[.int .i64 k, .string (bs l), w], 1, true⟩) := push_keep
  have hb : Box (all (H.push ⟨[.int .i64 k, .string (bs l), w], 1, true⟩)) (H.push ⟨[.int .i64 k, .string (bs l), w], 1, true⟩) H.n [.int .i64 k, .string (bs l), w] := push_boxA
  refine ⟨_, ?_, k1⟩
  generalize hH : H.push ⟨[.int .i64 k, .string (bs l), w], 1, true⟩ = H1 at *
  have l1 := hb.ld (k := 1) (v := .string (bs l)) rfl
  have l0 := hb.ld (k := 0) (v := .int .i64 k) rfl
  have l2 := hb.ld (k := 2) (v := w) rfl
  have J2 : ∀ (p : Bool) (m : Nat), f15_J2 real (AC m) m (ptr H.n 0) (.bool p) H1 = some (.int .i64 (if p && (decide (k = 1 ∨ k = 5) || decide (n = 0)) then 0 else 2), H1) := fun p m => rask_J2 hb hw.lenS
  refine Ev.enter (fun n => f15_eq rfl n _ _) ?_
  by_cases h : 8192 < n
  · have e : ((n : Int) > 8192) = True := by simp; omega
    simp only [f15, real_b, real_i, real_c, chk_t, bnd_some, bnd_up, iff_t, iff_f, gd_t, gd_f, wd_b, wd_u, pick_t, pick_f, b_lss, b_leq, b_gtr, b_geq, b_eql, b_neq, b_seql, b_sneq, b_add, b_sub, u_not, nilC_ptr, fAddr_ptr, Nat.zero_add, extr0, extr1, extr2, lenStr, decide_true, decide_false, bt_tt, bt_tf, bt_ft, bt_ff, bt_bne, Bool.not_true, Bool.not_false, Int.reduceBEq, Int.reduceBNe, extr30, extr31, rq_new hw.oneC, hH, l2, hw.lenS, e]
    have hn : ckA k l n = 5 := by simp [ckA, h]
    rw [hn]
    exact Ev.pure _
  have e : ((n : Int) > 8192) = False := by simp; omega
  by_cases h1 : k ≥ 1
  · by_cases h7 : k ≤ 7
    · by_cases h5 : k ≤ 5
      · simp only [f15, real_b, real_i, real_c, chk_t, bnd_some, bnd_up, iff_t, iff_f, gd_t, gd_f, wd_b, wd_u, pick_t, pick_f, b_lss, b_leq, b_gtr, b_geq, b_eql, b_neq, b_seql, b_sneq, b_add, b_sub, u_not, nilC_ptr, fAddr_ptr, Nat.zero_add, extr0, extr1, extr2, lenStr, decide_true, decide_false, bt_tt, bt_tf, bt_ft, bt_ff, bt_bne, Bool.not_true, Bool.not_false, Int.reduceBEq, Int.reduceBNe, extr30, extr31, rq_new hw.oneC, hH, l2, l1, l0, hw.lenS, e, h1, h7, h5]
        refine Ev.callC (rpath_ok hl) ?_
        simp only [real_b, real_i, real_c, chk_t, bnd_some, bnd_up, iff_t, iff_f, gd_t, gd_f, wd_b, wd_u, pick_t, pick_f, b_lss, b_leq, b_gtr, b_geq, b_eql, b_neq, b_seql, b_sneq, b_add, b_sub, u_not, nilC_ptr, fAddr_ptr, Nat.zero_add, extr0, extr1, extr2, lenStr, decide_true, decide_false, bt_tt, bt_tf, bt_ft, bt_ff, bt_bne, Bool.not_true, Bool.not_false, Int.reduceBEq, Int.reduceBNe, extr30, extr31, J2]
        have hn : ckA k l n = if isP l && (decide (k = 1 ∨ k = 5) || decide (n = 0)) then 0 else 2 := by
          unfold ckA
          rw [if_neg h, if_neg (by omega : ¬ (k = 6 ∨ k = 7))]
          by_cases hk : k = 1 ∨ k = 5
          · rw [if_pos hk, decide_eq_true hk, Bool.true_or]
          · rw [if_neg hk, decide_eq_false hk, Bool.false_or, if_pos (by omega : 2 ≤ k ∧ k ≤ 7)]
        rw [hn]
        exact Ev.pure _
      · simp only [f15, real_b, real_i, real_c, chk_t, bnd_some, bnd_up, iff_t, iff_f, gd_t, gd_f, wd_b, wd_u, pick_t, pick_f, b_lss, b_leq, b_gtr, b_geq, b_eql, b_neq, b_seql, b_sneq, b_add, b_sub, u_not, nilC_ptr, fAddr_ptr, Nat.zero_add, extr0, extr1, extr2, lenStr, decide_true, decide_false, bt_tt, bt_tf, bt_ft, bt_ff, bt_bne, Bool.not_true, Bool.not_false, Int.reduceBEq, Int.reduceBNe, extr30, extr31, rq_new hw.oneC, hH, l2, l1, l0, hw.lenS, e, h1, h7, h5, e_empty', J2]
        have hn : ckA k l n = if decide (l = []) && (decide (k = 1 ∨ k = 5) || decide (n = 0)) then 0 else 2 := by
          unfold ckA
          rw [if_neg h, if_pos (by omega : (k = 6 ∨ k = 7)), if_neg (by omega : ¬ (k = 1 ∨ k = 5)), decide_eq_false (by omega : ¬ (k = 1 ∨ k = 5)), Bool.false_or, if_pos (by omega : 2 ≤ k ∧ k ≤ 7)]
        rw [hn]
        exact Ev.pure _
    · have h5 : ¬ k ≤ 5 := by omega
      simp only [f15, real_b, real_i, real_c, chk_t, bnd_some, bnd_up, iff_t, iff_f, gd_t, gd_f, wd_b, wd_u, pick_t, pick_f, b_lss, b_leq, b_gtr, b_geq, b_eql, b_neq, b_seql, b_sneq, b_add, b_sub, u_not, nilC_ptr, fAddr_ptr, Nat.zero_add, extr0, extr1, extr2, lenStr, decide_true, decide_false, bt_tt, bt_tf, bt_ft, bt_ff, bt_bne, Bool.not_true, Bool.not_false, Int.reduceBEq, Int.reduceBNe, extr30, extr31, rq_new hw.oneC, hH, l2, l1, l0, hw.lenS, e, h1, h7, h5, J2]
      have hn : ckA k l n = if false && (decide (k = 1 ∨ k = 5) || decide (n = 0)) then 0 else 2 := by
        unfold ckA
        rw [if_neg h, if_neg (by omega : ¬ (k = 1 ∨ k = 5)), if_neg (by omega : ¬ (2 ≤ k ∧ k ≤ 7))]
        simp
      rw [hn]
      exact Ev.pure _
  · have h5 : k ≤ 5 := by omega
    simp only [f15, real_b, real_i, real_c, chk_t, bnd_some, bnd_up, iff_t, iff_f, gd_t, gd_f, wd_b, wd_u, pick_t, pick_f, b_lss, b_leq, b_gtr, b_geq, b_eql, b_neq, b_seql, b_sneq, b_add, b_sub, u_not, nilC_ptr, fAddr_ptr, Nat.zero_add, extr0, extr1, extr2, lenStr, decide_true, decide_false, bt_tt, bt_tf, bt_ft, bt_ff, bt_bne, Bool.not_true, Bool.not_false, Int.reduceBEq, Int.reduceBNe, extr30, extr31, rq_new hw.oneC, hH, l2, l1, l0, hw.lenS, e, h1, h5, J2]
    have hn : ckA k l n = if false && (decide (k = 1 ∨ k = 5) || decide (n = 0)) then 0 else 2 := by
      unfold ckA
      rw [if_neg h, if_neg (by omega : ¬ (k = 1 ∨ k = 5)), if_neg (by omega : ¬ (2 ≤ k ∧ k ≤ 7))]
      simp
    rw [hn]
    exact Ev.pure _
theorem ans_may {H : Heap} {k e a : Int} {l : List UInt8} {w : Value} {n : Nat} {cs : List Value} (hw : Sl (all H) H 1 w n cs) :
    ∃ H', Cl 20 [rpV k e a l w] H (.int .i64 (ckB k e a l n)) H' ∧ Keep (all H) H H' := by
  have k1 : Keep (all H) H (H.push ⟨[.int .i64 k, .int .i64 e, .int .i64 a, .string (bs l), w], 1, true⟩) := push_keep
  have hb : Box (all (H.push ⟨[.int .i64 k, .int .i64 e, .int .i64 a, .string (bs l), w], 1, true⟩)) (H.push ⟨[.int .i64 k, .int .i64 e, .int .i64 a, .string (bs l), w], 1, true⟩) H.n [.int .i64 k, .int .i64 e, .int .i64 a, .string (bs l), w] := push_boxA
  refine ⟨_, ?_, k1⟩
  generalize hH : H.push ⟨[.int .i64 k, .int .i64 e, .int .i64 a, .string (bs l), w], 1, true⟩ = H1 at *
  have l0 := hb.ld (k := 0) (v := .int .i64 k) rfl
  have l1 := hb.ld (k := 1) (v := .int .i64 e) rfl
  have l2 := hb.ld (k := 2) (v := .int .i64 a) rfl
  have l3 := hb.ld (k := 3) (v := .string (bs l)) rfl
  have l4 := hb.ld (k := 4) (v := w) rfl
  refine Ev.enter (fun n => f20_eq rfl n _ _) ?_
  by_cases h1 : 32 < l.length
  · have e1 : ((((bs l).size : Nat) : Int) > 32) = True := by rw [bs_size]; simp; omega
    simp only [f20, real_b, real_i, real_c, chk_t, bnd_some, bnd_up, iff_t, iff_f, gd_t, gd_f, wd_b, wd_u, pick_t, pick_f, b_lss, b_leq, b_gtr, b_geq, b_eql, b_neq, b_seql, b_sneq, b_add, b_sub, u_not, nilC_ptr, fAddr_ptr, Nat.zero_add, extr0, extr1, extr2, lenStr, decide_true, decide_false, bt_tt, bt_tf, bt_ft, bt_ff, bt_bne, Bool.not_true, Bool.not_false, Int.reduceBEq, Int.reduceBNe, extr30, extr31, rp_new hw.oneC, hH, l3, e1]
    rw [show ckB k e a l n = 5 by simp [ckB, h1]]
    exact Ev.pure _
  have e1 : ((((bs l).size : Nat) : Int) > 32) = False := by rw [bs_size]; simp; omega
  by_cases h2 : 262144 < n
  · have e2 : ((n : Int) > 262144) = True := by simp; omega
    simp only [f20, real_b, real_i, real_c, chk_t, bnd_some, bnd_up, iff_t, iff_f, gd_t, gd_f, wd_b, wd_u, pick_t, pick_f, b_lss, b_leq, b_gtr, b_geq, b_eql, b_neq, b_seql, b_sneq, b_add, b_sub, u_not, nilC_ptr, fAddr_ptr, Nat.zero_add, extr0, extr1, extr2, lenStr, decide_true, decide_false, bt_tt, bt_tf, bt_ft, bt_ff, bt_bne, Bool.not_true, Bool.not_false, Int.reduceBEq, Int.reduceBNe, extr30, extr31, rp_new hw.oneC, hH, l3, l4, hw.lenS, e1, e2]
    rw [show ckB k e a l n = 5 by simp [ckB, h2]]
    exact Ev.pure _
  have e2 : ((n : Int) > 262144) = False := by simp; omega
  have hc : ckB k e a l n = if k < 0 ∨ 7 < k ∨ e < 0 ∨ 999 < e ∨ a < 0 ∨ 9007199254740991 < a then 2 else 0 := by
    unfold ckB
    rw [if_neg (by omega)]
  rw [hc]
  by_cases c0 : k < 0
  · rw [if_pos (by omega)]
    simp only [f20, real_b, real_i, real_c, chk_t, bnd_some, bnd_up, iff_t, iff_f, gd_t, gd_f, wd_b, wd_u, pick_t, pick_f, b_lss, b_leq, b_gtr, b_geq, b_eql, b_neq, b_seql, b_sneq, b_add, b_sub, u_not, nilC_ptr, fAddr_ptr, Nat.zero_add, extr0, extr1, extr2, lenStr, decide_true, decide_false, bt_tt, bt_tf, bt_ft, bt_ff, bt_bne, Bool.not_true, Bool.not_false, Int.reduceBEq, Int.reduceBNe, extr30, extr31, rp_new hw.oneC, hH, l0, l1, l2, l3, l4, hw.lenS, e1, e2, c0]
    exact Ev.pure _
  by_cases c1 : k > 7
  · rw [if_pos (by omega)]
    simp only [f20, real_b, real_i, real_c, chk_t, bnd_some, bnd_up, iff_t, iff_f, gd_t, gd_f, wd_b, wd_u, pick_t, pick_f, b_lss, b_leq, b_gtr, b_geq, b_eql, b_neq, b_seql, b_sneq, b_add, b_sub, u_not, nilC_ptr, fAddr_ptr, Nat.zero_add, extr0, extr1, extr2, lenStr, decide_true, decide_false, bt_tt, bt_tf, bt_ft, bt_ff, bt_bne, Bool.not_true, Bool.not_false, Int.reduceBEq, Int.reduceBNe, extr30, extr31, rp_new hw.oneC, hH, l0, l1, l2, l3, l4, hw.lenS, e1, e2, c0, c1]
    exact Ev.pure _
  by_cases c2 : e < 0
  · rw [if_pos (by omega)]
    simp only [f20, real_b, real_i, real_c, chk_t, bnd_some, bnd_up, iff_t, iff_f, gd_t, gd_f, wd_b, wd_u, pick_t, pick_f, b_lss, b_leq, b_gtr, b_geq, b_eql, b_neq, b_seql, b_sneq, b_add, b_sub, u_not, nilC_ptr, fAddr_ptr, Nat.zero_add, extr0, extr1, extr2, lenStr, decide_true, decide_false, bt_tt, bt_tf, bt_ft, bt_ff, bt_bne, Bool.not_true, Bool.not_false, Int.reduceBEq, Int.reduceBNe, extr30, extr31, rp_new hw.oneC, hH, l0, l1, l2, l3, l4, hw.lenS, e1, e2, c0, c1, c2]
    exact Ev.pure _
  by_cases c3 : e > 999
  · rw [if_pos (by omega)]
    simp only [f20, real_b, real_i, real_c, chk_t, bnd_some, bnd_up, iff_t, iff_f, gd_t, gd_f, wd_b, wd_u, pick_t, pick_f, b_lss, b_leq, b_gtr, b_geq, b_eql, b_neq, b_seql, b_sneq, b_add, b_sub, u_not, nilC_ptr, fAddr_ptr, Nat.zero_add, extr0, extr1, extr2, lenStr, decide_true, decide_false, bt_tt, bt_tf, bt_ft, bt_ff, bt_bne, Bool.not_true, Bool.not_false, Int.reduceBEq, Int.reduceBNe, extr30, extr31, rp_new hw.oneC, hH, l0, l1, l2, l3, l4, hw.lenS, e1, e2, c0, c1, c2, c3]
    exact Ev.pure _
  by_cases c4 : a < 0
  · rw [if_pos (by omega)]
    simp only [f20, real_b, real_i, real_c, chk_t, bnd_some, bnd_up, iff_t, iff_f, gd_t, gd_f, wd_b, wd_u, pick_t, pick_f, b_lss, b_leq, b_gtr, b_geq, b_eql, b_neq, b_seql, b_sneq, b_add, b_sub, u_not, nilC_ptr, fAddr_ptr, Nat.zero_add, extr0, extr1, extr2, lenStr, decide_true, decide_false, bt_tt, bt_tf, bt_ft, bt_ff, bt_bne, Bool.not_true, Bool.not_false, Int.reduceBEq, Int.reduceBNe, extr30, extr31, rp_new hw.oneC, hH, l0, l1, l2, l3, l4, hw.lenS, e1, e2, c0, c1, c2, c3, c4]
    exact Ev.pure _
  by_cases c5 : a > 9007199254740991
  · rw [if_pos (by omega)]
    simp only [f20, real_b, real_i, real_c, chk_t, bnd_some, bnd_up, iff_t, iff_f, gd_t, gd_f, wd_b, wd_u, pick_t, pick_f, b_lss, b_leq, b_gtr, b_geq, b_eql, b_neq, b_seql, b_sneq, b_add, b_sub, u_not, nilC_ptr, fAddr_ptr, Nat.zero_add, extr0, extr1, extr2, lenStr, decide_true, decide_false, bt_tt, bt_tf, bt_ft, bt_ff, bt_bne, Bool.not_true, Bool.not_false, Int.reduceBEq, Int.reduceBNe, extr30, extr31, rp_new hw.oneC, hH, l0, l1, l2, l3, l4, hw.lenS, e1, e2, c0, c1, c2, c3, c4, c5]
    exact Ev.pure _
  rw [if_neg (by omega)]
  simp only [f20, real_b, real_i, real_c, chk_t, bnd_some, bnd_up, iff_t, iff_f, gd_t, gd_f, wd_b, wd_u, pick_t, pick_f, b_lss, b_leq, b_gtr, b_geq, b_eql, b_neq, b_seql, b_sneq, b_add, b_sub, u_not, nilC_ptr, fAddr_ptr, Nat.zero_add, extr0, extr1, extr2, lenStr, decide_true, decide_false, bt_tt, bt_tf, bt_ft, bt_ff, bt_bne, Bool.not_true, Bool.not_false, Int.reduceBEq, Int.reduceBNe, extr30, extr31, rp_new hw.oneC, hH, l0, l1, l2, l3, l4, hw.lenS, e1, e2, c0, c1, c2, c3, c4, c5]
  exact Ev.pure _
theorem rans_may {H : Heap} {k e a : Int} {l : List UInt8} {w : Value} {n : Nat} {cs : List Value} (hw : Sl (all H) H 1 w n cs) :
    ∃ H', Cl 21 [rpV k e a l w] H (.int .i64 (ckB k e a l n)) H' ∧ Keep (all H) H H' := by
  have k1 : Keep (all H) H (H.push ⟨[.int .i64 k, .int .i64 e, .int .i64 a, .string (bs l), w], 1, true⟩) := push_keep
  have hb : Box (all (H.push ⟨[.int .i64 k, .int .i64 e, .int .i64 a, .string (bs l), w], 1, true⟩)) (H.push ⟨[.int .i64 k, .int .i64 e, .int .i64 a, .string (bs l), w], 1, true⟩) H.n [.int .i64 k, .int .i64 e, .int .i64 a, .string (bs l), w] := push_boxA
  refine ⟨_, ?_, k1⟩
  generalize hH : H.push ⟨[.int .i64 k, .int .i64 e, .int .i64 a, .string (bs l), w], 1, true⟩ = H1 at *
  have l0 := hb.ld (k := 0) (v := .int .i64 k) rfl
  have l1 := hb.ld (k := 1) (v := .int .i64 e) rfl
  have l2 := hb.ld (k := 2) (v := .int .i64 a) rfl
  have l3 := hb.ld (k := 3) (v := .string (bs l)) rfl
  have l4 := hb.ld (k := 4) (v := w) rfl
  refine Ev.enter (fun n => f21_eq rfl n _ _) ?_
  by_cases h1 : 32 < l.length
  · have e1 : ((((bs l).size : Nat) : Int) > 32) = True := by rw [bs_size]; simp; omega
    simp only [f21, real_b, real_i, real_c, chk_t, bnd_some, bnd_up, iff_t, iff_f, gd_t, gd_f, wd_b, wd_u, pick_t, pick_f, b_lss, b_leq, b_gtr, b_geq, b_eql, b_neq, b_seql, b_sneq, b_add, b_sub, u_not, nilC_ptr, fAddr_ptr, Nat.zero_add, extr0, extr1, extr2, lenStr, decide_true, decide_false, bt_tt, bt_tf, bt_ft, bt_ff, bt_bne, Bool.not_true, Bool.not_false, Int.reduceBEq, Int.reduceBNe, extr30, extr31, rp_new hw.oneC, hH, l3, e1]
    rw [show ckB k e a l n = 5 by simp [ckB, h1]]
    exact Ev.pure _
  have e1 : ((((bs l).size : Nat) : Int) > 32) = False := by rw [bs_size]; simp; omega
  by_cases h2 : 262144 < n
  · have e2 : ((n : Int) > 262144) = True := by simp; omega
    simp only [f21, real_b, real_i, real_c, chk_t, bnd_some, bnd_up, iff_t, iff_f, gd_t, gd_f, wd_b, wd_u, pick_t, pick_f, b_lss, b_leq, b_gtr, b_geq, b_eql, b_neq, b_seql, b_sneq, b_add, b_sub, u_not, nilC_ptr, fAddr_ptr, Nat.zero_add, extr0, extr1, extr2, lenStr, decide_true, decide_false, bt_tt, bt_tf, bt_ft, bt_ff, bt_bne, Bool.not_true, Bool.not_false, Int.reduceBEq, Int.reduceBNe, extr30, extr31, rp_new hw.oneC, hH, l3, l4, hw.lenS, e1, e2]
    rw [show ckB k e a l n = 5 by simp [ckB, h2]]
    exact Ev.pure _
  have e2 : ((n : Int) > 262144) = False := by simp; omega
  have hc : ckB k e a l n = if k < 0 ∨ 7 < k ∨ e < 0 ∨ 999 < e ∨ a < 0 ∨ 9007199254740991 < a then 2 else 0 := by
    unfold ckB
    rw [if_neg (by omega)]
  rw [hc]
  by_cases c0 : k < 0
  · rw [if_pos (by omega)]
    simp only [f21, real_b, real_i, real_c, chk_t, bnd_some, bnd_up, iff_t, iff_f, gd_t, gd_f, wd_b, wd_u, pick_t, pick_f, b_lss, b_leq, b_gtr, b_geq, b_eql, b_neq, b_seql, b_sneq, b_add, b_sub, u_not, nilC_ptr, fAddr_ptr, Nat.zero_add, extr0, extr1, extr2, lenStr, decide_true, decide_false, bt_tt, bt_tf, bt_ft, bt_ff, bt_bne, Bool.not_true, Bool.not_false, Int.reduceBEq, Int.reduceBNe, extr30, extr31, rp_new hw.oneC, hH, l0, l1, l2, l3, l4, hw.lenS, e1, e2, c0]
    exact Ev.pure _
  by_cases c1 : k > 7
  · rw [if_pos (by omega)]
    simp only [f21, real_b, real_i, real_c, chk_t, bnd_some, bnd_up, iff_t, iff_f, gd_t, gd_f, wd_b, wd_u, pick_t, pick_f, b_lss, b_leq, b_gtr, b_geq, b_eql, b_neq, b_seql, b_sneq, b_add, b_sub, u_not, nilC_ptr, fAddr_ptr, Nat.zero_add, extr0, extr1, extr2, lenStr, decide_true, decide_false, bt_tt, bt_tf, bt_ft, bt_ff, bt_bne, Bool.not_true, Bool.not_false, Int.reduceBEq, Int.reduceBNe, extr30, extr31, rp_new hw.oneC, hH, l0, l1, l2, l3, l4, hw.lenS, e1, e2, c0, c1]
    exact Ev.pure _
  by_cases c2 : e < 0
  · rw [if_pos (by omega)]
    simp only [f21, real_b, real_i, real_c, chk_t, bnd_some, bnd_up, iff_t, iff_f, gd_t, gd_f, wd_b, wd_u, pick_t, pick_f, b_lss, b_leq, b_gtr, b_geq, b_eql, b_neq, b_seql, b_sneq, b_add, b_sub, u_not, nilC_ptr, fAddr_ptr, Nat.zero_add, extr0, extr1, extr2, lenStr, decide_true, decide_false, bt_tt, bt_tf, bt_ft, bt_ff, bt_bne, Bool.not_true, Bool.not_false, Int.reduceBEq, Int.reduceBNe, extr30, extr31, rp_new hw.oneC, hH, l0, l1, l2, l3, l4, hw.lenS, e1, e2, c0, c1, c2]
    exact Ev.pure _
  by_cases c3 : e > 999
  · rw [if_pos (by omega)]
    simp only [f21, real_b, real_i, real_c, chk_t, bnd_some, bnd_up, iff_t, iff_f, gd_t, gd_f, wd_b, wd_u, pick_t, pick_f, b_lss, b_leq, b_gtr, b_geq, b_eql, b_neq, b_seql, b_sneq, b_add, b_sub, u_not, nilC_ptr, fAddr_ptr, Nat.zero_add, extr0, extr1, extr2, lenStr, decide_true, decide_false, bt_tt, bt_tf, bt_ft, bt_ff, bt_bne, Bool.not_true, Bool.not_false, Int.reduceBEq, Int.reduceBNe, extr30, extr31, rp_new hw.oneC, hH, l0, l1, l2, l3, l4, hw.lenS, e1, e2, c0, c1, c2, c3]
    exact Ev.pure _
  by_cases c4 : a < 0
  · rw [if_pos (by omega)]
    simp only [f21, real_b, real_i, real_c, chk_t, bnd_some, bnd_up, iff_t, iff_f, gd_t, gd_f, wd_b, wd_u, pick_t, pick_f, b_lss, b_leq, b_gtr, b_geq, b_eql, b_neq, b_seql, b_sneq, b_add, b_sub, u_not, nilC_ptr, fAddr_ptr, Nat.zero_add, extr0, extr1, extr2, lenStr, decide_true, decide_false, bt_tt, bt_tf, bt_ft, bt_ff, bt_bne, Bool.not_true, Bool.not_false, Int.reduceBEq, Int.reduceBNe, extr30, extr31, rp_new hw.oneC, hH, l0, l1, l2, l3, l4, hw.lenS, e1, e2, c0, c1, c2, c3, c4]
    exact Ev.pure _
  by_cases c5 : a > 9007199254740991
  · rw [if_pos (by omega)]
    simp only [f21, real_b, real_i, real_c, chk_t, bnd_some, bnd_up, iff_t, iff_f, gd_t, gd_f, wd_b, wd_u, pick_t, pick_f, b_lss, b_leq, b_gtr, b_geq, b_eql, b_neq, b_seql, b_sneq, b_add, b_sub, u_not, nilC_ptr, fAddr_ptr, Nat.zero_add, extr0, extr1, extr2, lenStr, decide_true, decide_false, bt_tt, bt_tf, bt_ft, bt_ff, bt_bne, Bool.not_true, Bool.not_false, Int.reduceBEq, Int.reduceBNe, extr30, extr31, rp_new hw.oneC, hH, l0, l1, l2, l3, l4, hw.lenS, e1, e2, c0, c1, c2, c3, c4, c5]
    exact Ev.pure _
  rw [if_neg (by omega)]
  simp only [f21, real_b, real_i, real_c, chk_t, bnd_some, bnd_up, iff_t, iff_f, gd_t, gd_f, wd_b, wd_u, pick_t, pick_f, b_lss, b_leq, b_gtr, b_geq, b_eql, b_neq, b_seql, b_sneq, b_add, b_sub, u_not, nilC_ptr, fAddr_ptr, Nat.zero_add, extr0, extr1, extr2, lenStr, decide_true, decide_false, bt_tt, bt_tf, bt_ft, bt_ff, bt_bne, Bool.not_true, Bool.not_false, Int.reduceBEq, Int.reduceBNe, extr30, extr31, rp_new hw.oneC, hH, l0, l1, l2, l3, l4, hw.lenS, e1, e2, c0, c1, c2, c3, c4, c5]
  exact Ev.pure _
end Go.Eng
