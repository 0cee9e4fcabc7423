/- Numbers and texts taken off. -/
import Derived.Test.YtmjeefecjgfdjaaDoorTD
set_option linter.unusedVariables false
set_option linter.unusedSimpArgs false
namespace Go.Eng
open Go Go.Proofs

/-! ### the plain part -/
theorem tkG_says : ∀ (d : List Nat) (n s : Nat), s ≤ 8 → ((tkG d n s).2.2 = 0 ∧ s < (tkG d n s).2.1 ∧ (tkG d n s).2.1 ≤ s + d.length ∧ (tkG d n s).2.1 ≤ 8 ∧ (tkG d n s).1 ≤ 9007199254740991) ∨
    ((tkG d n s).1 = 0 ∧ (tkG d n s).2.1 = 0 ∧ ((tkG d n s).2.2 = 3 ∨ (tkG d n s).2.2 = 4))
  | [], n, s, hs => by
    rw [tkG]
    split <;> exact .inr ⟨rfl, rfl, by simp⟩
  | c :: r, n, s, hs => by
    rw [tkG]
    split
    · exact .inr ⟨rfl, rfl, by simp⟩
    · rename_i h8
      split
      · split
        · exact .inr ⟨rfl, rfl, by simp⟩
        · rename_i h
          refine .inl ⟨rfl, by simp only; omega, by simp only [List.length_cons]; omega, by simp only; omega, ?_⟩
          simp only
          rcases Nat.lt_or_ge 9007199254740991 (n + c % 128 * 128 ^ s) with h' | h'
          · exact absurd (Or.inr h') h
          · exact h'
      · rcases tkG_says r (n + c % 128 * 128 ^ s) (s + 1) (by omega) with h | h
        · exact .inl ⟨h.1, by omega, by simp only [List.length_cons]; omega, h.2.2.2.1, h.2.2.2.2⟩
        · exact .inr h
/-- A number, what stands behind it, why it is none. -/
def tN (d : List Nat) : Nat × List Nat × Int := if (tk d).2.2 = 0 then ((tk d).1, d.drop (tk d).2.1, 0) else (0, [], (tk d).2.2)
theorem tk_says (d : List Nat) : ((tk d).2.2 = 0 ∧ 0 < (tk d).2.1 ∧ (tk d).2.1 ≤ d.length ∧ (tk d).2.1 ≤ 8 ∧ (tk d).1 ≤ 9007199254740991) ∨ ((tk d).1 = 0 ∧ (tk d).2.1 = 0 ∧ ((tk d).2.2 = 3 ∨ (tk d).2.2 = 4)) := by
  rcases tkG_says d 0 0 (by omega) with h | h
  · exact .inl ⟨h.1, h.2.1, by simpa [tk] using h.2.2.1, h.2.2.2.1, h.2.2.2.2⟩
  · exact .inr h
theorem tN_say (d : List Nat) : ((tN d).2.2 = 0 ∧ (tk d).2.2 = 0 ∧ (tN d).1 = (tk d).1 ∧ (tN d).2.1 = d.drop (tk d).2.1) ∨ ((tN d).1 = 0 ∧ (tN d).2.1 = [] ∧ ((tN d).2.2 = 3 ∨ (tN d).2.2 = 4) ∧ (tN d).2.2 = (tk d).2.2) := by
  unfold tN
  rcases tk_says d with h | h
  · rw [if_pos h.1]; exact .inl ⟨rfl, h.1, rfl, rfl⟩
  · rw [if_neg (by omega)]; exact .inr ⟨rfl, rfl, h.2.2, rfl⟩
theorem tN_len (d : List Nat) : (tN d).2.1.length ≤ d.length := by
  rcases tN_say d with h | h
  · rw [h.2.2.2]; simp
  · rw [h.2.1]; simp
theorem tN_byte {d : List Nat} (hd : ∀ x ∈ d, x < 256) : ∀ x ∈ (tN d).2.1, x < 256 := fun x hx => by
  rcases tN_say d with h | h
  · rw [h.2.2.2] at hx; exact hd x (List.mem_of_mem_drop hx)
  · rw [h.2.1] at hx; cases hx
/-- A text, what stands behind it, why it is none. -/
def tT (m : Nat) (d : List Nat) : List Nat × List Nat × Int :=
  if (tN d).2.2 ≠ 0 then ([], [], (tN d).2.2) else if m < (tN d).1 then ([], [], 5) else if (tN d).2.1.length < (tN d).1 then ([], [], 3) else ((tN d).2.1.take (tN d).1, (tN d).2.1.drop (tN d).1, 0)
theorem tT_len (m : Nat) (d : List Nat) : (tT m d).2.1.length ≤ d.length ∧ (tT m d).1.length ≤ d.length ∧ (tT m d).1.length ≤ m := by
  unfold tT
  have := tN_len d
  split
  · simp
  · split
    · simp
    · split
      · simp
      · simp; omega
theorem tT_byte {m : Nat} {d : List Nat} (hd : ∀ x ∈ d, x < 256) : (∀ x ∈ (tT m d).1, x < 256) ∧ ∀ x ∈ (tT m d).2.1, x < 256 := by
  unfold tT
  have := tN_byte hd
  split
  · simp
  · split
    · simp
    · split
      · simp
      · exact ⟨fun x hx => this x (List.mem_of_mem_take hx), fun x hx => this x (List.mem_of_mem_drop hx)⟩

/-! ### taken by the machine -/
theorem taken_ok {H : Heap} {v : Value} {d : List Nat} (h : By H d v) (hd : ∀ x ∈ d, x < 256) (hb : d.length ≤ mostBytes) :
    ∃ w H', Cl 52 [v] H (.tuple #[.int .i64 ((tN d).1 : Int), w, .int .i64 (tN d).2.2]) H' ∧ Acc (all H) H' 1 w (tN d).2.1.length (B (tN d).2.1) ∧ Keep (all H) H H' := by
  rcases tk_says d with ht | ht
  · have hn : tN d = ((tk d).1, d.drop (tk d).2.1, 0) := by unfold tN; rw [if_pos ht.1]
    obtain ⟨v', v1, v2⟩ := By.from h (k := .i64) ht.2.2.1
    obtain ⟨w, H', g1, g2, g3⟩ := clone_ok v2 (by simp; omega)
    refine ⟨w, H', ?_, by rw [hn]; exact g2, g3⟩
    rw [hn]
    refine Ev.enter (fun n => f52_eq rfl n _ _) ?_
    simp only [f52, real_b, real_i, real_c]
    refine Ev.callC (take_ok h hd) ?_
    simp only [real_b, real_i, real_c, chk_t, bnd_some, bnd_up, iff_t, iff_f, gd_t, gd_f, wd_b, wd_u, pick_t, pick_f, b_lss, b_leq, b_gtr, b_geq, b_eql, b_neq, b_seql, b_sneq, b_add, b_sub, u_not, nilC_ptr, fAddr_ptr, Nat.zero_add, extr0, extr1, extr2, lenStr, decide_true, decide_false, bt_tt, bt_tf, bt_ft, bt_ff, bt_bne, Bool.not_true, Bool.not_false, Int.reduceBEq, Int.reduceBNe, extr30, extr31, ht.1, v1]
    refine Ev.callC g1 ?_
    exact Ev.pure _
  · have h0 : (tk d).2.2 ≠ 0 := by omega
    have hn : tN d = (0, [], (tk d).2.2) := by unfold tN; rw [if_neg h0]
    refine ⟨nilS, H, ?_, by rw [hn]; exact Acc.nil, Keep.refl _ _⟩
    rw [hn]
    refine Ev.enter (fun n => f52_eq rfl n _ _) ?_
    simp only [f52, real_b, real_i, real_c]
    refine Ev.callC (take_ok h hd) ?_
    have e : ((tk d).2.2 != 0) = true := by simpa using h0
    simp only [real_b, real_i, real_c, chk_t, bnd_some, bnd_up, iff_t, iff_f, gd_t, gd_f, wd_b, wd_u, pick_t, pick_f, b_lss, b_leq, b_gtr, b_geq, b_eql, b_neq, b_seql, b_sneq, b_add, b_sub, u_not, nilC_ptr, fAddr_ptr, Nat.zero_add, extr0, extr1, extr2, lenStr, decide_true, decide_false, bt_tt, bt_tf, bt_ft, bt_ff, bt_bne, Bool.not_true, Bool.not_false, Int.reduceBEq, Int.reduceBNe, extr30, extr31, e]
    exact Ev.pure _
theorem taketext_ok {H : Heap} {v : Value} {d : List Nat} {m : Nat} (h : By H d v) (hd : ∀ x ∈ d, x < 256) (hb : d.length ≤ mostBytes) :
    ∃ w w' H', Cl 56 [v, .int .i64 (m : Int)] H (.tuple #[w, w', .int .i64 (tT m d).2.2]) H' ∧ Acc (all H) H' 1 w (tT m d).1.length (B (tT m d).1) ∧ Acc (all H) H' 1 w' (tT m d).2.1.length (B (tT m d).2.1) ∧ Keep (all H) H H' := by
  have hm : ((m : Int) < 0) = False := by simp
  rcases tk_says d with ht | ht
  · have hn : tN d = ((tk d).1, d.drop (tk d).2.1, 0) := by unfold tN; rw [if_pos ht.1]
    by_cases hm1 : m < (tk d).1
    · have hT : tT m d = ([], [], 5) := by simp [tT, hn, hm1]
      rw [hT]
      refine ⟨nilS, nilS, H, ?_, Acc.nil, Acc.nil, Keep.refl _ _⟩
      refine Ev.enter (fun n => f56_eq rfl n _ _ _) ?_
      simp only [f56, real_b, real_i, real_c, chk_t, bnd_some, bnd_up, iff_t, iff_f, gd_t, gd_f, wd_b, wd_u, pick_t, pick_f, b_lss, b_leq, b_gtr, b_geq, b_eql, b_neq, b_seql, b_sneq, b_add, b_sub, u_not, nilC_ptr, fAddr_ptr, Nat.zero_add, extr0, extr1, extr2, lenStr, decide_true, decide_false, bt_tt, bt_tf, bt_ft, bt_ff, bt_bne, Bool.not_true, Bool.not_false, Int.reduceBEq, Int.reduceBNe, extr30, extr31, hm]
      refine Ev.callC (take_ok h hd) ?_
      have e : (((tk d).1 : Int) > (m : Int)) = True := by simp; omega
      simp only [real_b, real_i, real_c, chk_t, bnd_some, bnd_up, iff_t, iff_f, gd_t, gd_f, wd_b, wd_u, pick_t, pick_f, b_lss, b_leq, b_gtr, b_geq, b_eql, b_neq, b_seql, b_sneq, b_add, b_sub, u_not, nilC_ptr, fAddr_ptr, Nat.zero_add, extr0, extr1, extr2, lenStr, decide_true, decide_false, bt_tt, bt_tf, bt_ft, bt_ff, bt_bne, Bool.not_true, Bool.not_false, Int.reduceBEq, Int.reduceBNe, extr30, extr31, ht.1, e]
      exact Ev.pure _
    · have e : (((tk d).1 : Int) > (m : Int)) = False := by simp; omega
      have e1 : IntKind.i64.wrap ((d.length : Int) - ((tk d).2.1 : Int)) = ((d.length - (tk d).2.1 : Nat) : Int) := by
        have : mostBytes = 140737488355328 := rfl
        rw [wrap_i64 (by omega) (by omega)]; omega
      by_cases hl : d.length - (tk d).2.1 < (tk d).1
      · have hT : tT m d = ([], [], 3) := by simp [tT, hn, hm1, hl]
        rw [hT]
        refine ⟨nilS, nilS, H, ?_, Acc.nil, Acc.nil, Keep.refl _ _⟩
        refine Ev.enter (fun n => f56_eq rfl n _ _ _) ?_
        simp only [f56, real_b, real_i, real_c, chk_t, bnd_some, bnd_up, iff_t, iff_f, gd_t, gd_f, wd_b, wd_u, pick_t, pick_f, b_lss, b_leq, b_gtr, b_geq, b_eql, b_neq, b_seql, b_sneq, b_add, b_sub, u_not, nilC_ptr, fAddr_ptr, Nat.zero_add, extr0, extr1, extr2, lenStr, decide_true, decide_false, bt_tt, bt_tf, bt_ft, bt_ff, bt_bne, Bool.not_true, Bool.not_false, Int.reduceBEq, Int.reduceBNe, extr30, extr31, hm]
        refine Ev.callC (take_ok h hd) ?_
        have e2 : (((tk d).1 : Int) > ((d.length - (tk d).2.1 : Nat) : Int)) = True := by simp; omega
        simp only [real_b, real_i, real_c, chk_t, bnd_some, bnd_up, iff_t, iff_f, gd_t, gd_f, wd_b, wd_u, pick_t, pick_f, b_lss, b_leq, b_gtr, b_geq, b_eql, b_neq, b_seql, b_sneq, b_add, b_sub, u_not, nilC_ptr, fAddr_ptr, Nat.zero_add, extr0, extr1, extr2, lenStr, decide_true, decide_false, bt_tt, bt_tf, bt_ft, bt_ff, bt_bne, Bool.not_true, Bool.not_false, Int.reduceBEq, Int.reduceBNe, extr30, extr31, ht.1, e, h.lenS, e1, e2]
        exact Ev.pure _
      · have hT : tT m d = ((d.drop (tk d).2.1).take (tk d).1, d.drop ((tk d).2.1 + (tk d).1), 0) := by simp [tT, hn, hm1, hl]
        have e2 : (((tk d).1 : Int) > ((d.length - (tk d).2.1 : Nat) : Int)) = False := by simp; omega
        have e3 : IntKind.i64.wrap (((tk d).2.1 : Int) + ((tk d).1 : Int)) = (((tk d).2.1 + (tk d).1 : Nat) : Int) := by
          rw [wrap_i64 (by omega) (by omega)]; omega
        obtain ⟨v1, v11, v12⟩ := By.part h (k := .i64) (k' := .i64) (i := (tk d).2.1) (j := (tk d).2.1 + (tk d).1) (by omega) (by omega)
        rw [Nat.add_sub_cancel_left] at v12
        obtain ⟨v2, v21, v22⟩ := By.from h (k := .i64) (i := (tk d).2.1 + (tk d).1) (by omega)
        obtain ⟨w, H1, g1, g2, g3⟩ := clone_ok v12 (by simp; omega)
        obtain ⟨w', H2, k1, k2, k3⟩ := clone_ok (v22.up g3) (by simp; omega)
        rw [hT]
        refine ⟨w, w', H2, ?_, g2.keep k3, k2.low (upA g3), g3.tr k3⟩
        refine Ev.enter (fun n => f56_eq rfl n _ _ _) ?_
        simp only [f56, real_b, real_i, real_c, chk_t, bnd_some, bnd_up, iff_t, iff_f, gd_t, gd_f, wd_b, wd_u, pick_t, pick_f, b_lss, b_leq, b_gtr, b_geq, b_eql, b_neq, b_seql, b_sneq, b_add, b_sub, u_not, nilC_ptr, fAddr_ptr, Nat.zero_add, extr0, extr1, extr2, lenStr, decide_true, decide_false, bt_tt, bt_tf, bt_ft, bt_ff, bt_bne, Bool.not_true, Bool.not_false, Int.reduceBEq, Int.reduceBNe, extr30, extr31, hm]
        refine Ev.callC (take_ok h hd) ?_
        simp only [real_b, real_i, real_c, chk_t, bnd_some, bnd_up, iff_t, iff_f, gd_t, gd_f, wd_b, wd_u, pick_t, pick_f, b_lss, b_leq, b_gtr, b_geq, b_eql, b_neq, b_seql, b_sneq, b_add, b_sub, u_not, nilC_ptr, fAddr_ptr, Nat.zero_add, extr0, extr1, extr2, lenStr, decide_true, decide_false, bt_tt, bt_tf, bt_ft, bt_ff, bt_bne, Bool.not_true, Bool.not_false, Int.reduceBEq, Int.reduceBNe, extr30, extr31, ht.1, e, h.lenS, e1, e2, e3, v11]
        refine Ev.callC g1 ?_
        simp only [real_b, real_i, real_c, chk_t, bnd_some, bnd_up, iff_t, iff_f, gd_t, gd_f, wd_b, wd_u, pick_t, pick_f, b_lss, b_leq, b_gtr, b_geq, b_eql, b_neq, b_seql, b_sneq, b_add, b_sub, u_not, nilC_ptr, fAddr_ptr, Nat.zero_add, extr0, extr1, extr2, lenStr, decide_true, decide_false, bt_tt, bt_tf, bt_ft, bt_ff, bt_bne, Bool.not_true, Bool.not_false, Int.reduceBEq, Int.reduceBNe, extr30, extr31, e3, v21]
        refine Ev.callC k1 ?_
        exact Ev.pure _
  · have h0 : (tk d).2.2 ≠ 0 := by omega
    have hn : tN d = (0, [], (tk d).2.2) := by unfold tN; rw [if_neg h0]
    have hT : tT m d = ([], [], (tk d).2.2) := by simp [tT, hn, h0]
    rw [hT]
    refine ⟨nilS, nilS, H, ?_, Acc.nil, Acc.nil, Keep.refl _ _⟩
    refine Ev.enter (fun n => f56_eq rfl n _ _ _) ?_
    simp only [f56, real_b, real_i, real_c, chk_t, bnd_some, bnd_up, iff_t, iff_f, gd_t, gd_f, wd_b, wd_u, pick_t, pick_f, b_lss, b_leq, b_gtr, b_geq, b_eql, b_neq, b_seql, b_sneq, b_add, b_sub, u_not, nilC_ptr, fAddr_ptr, Nat.zero_add, extr0, extr1, extr2, lenStr, decide_true, decide_false, bt_tt, bt_tf, bt_ft, bt_ff, bt_bne, Bool.not_true, Bool.not_false, Int.reduceBEq, Int.reduceBNe, extr30, extr31, hm]
    refine Ev.callC (take_ok h hd) ?_
    have e : ((tk d).2.2 != 0) = true := by simpa using h0
    simp only [real_b, real_i, real_c, chk_t, bnd_some, bnd_up, iff_t, iff_f, gd_t, gd_f, wd_b, wd_u, pick_t, pick_f, b_lss, b_leq, b_gtr, b_geq, b_eql, b_neq, b_seql, b_sneq, b_add, b_sub, u_not, nilC_ptr, fAddr_ptr, Nat.zero_add, extr0, extr1, extr2, lenStr, decide_true, decide_false, bt_tt, bt_tf, bt_ft, bt_ff, bt_bne, Bool.not_true, Bool.not_false, Int.reduceBEq, Int.reduceBNe, extr30, extr31, e]
    exact Ev.pure _

/-! ### by the reference -/
theorem b_rem8 {P : Program} {t : TypeId} {c : Nat} : binB P .rem t (.int .u8 (c : Int)) (.int .u8 128) = some (.int .u8 ((c % 128 : Nat) : Int)) := by
  rw [b_rem (by decide), Int.tmod_eq_emod_of_nonneg (by omega)]
  congr 2
theorem rtake_loop {H : Heap} {v : Value} {d : List Nat} (h : By H d v) (hd : ∀ x ∈ d, x < 256) (hb : d.length ≤ mostBytes) : ∀ (k s n : Nat), s + k = 8 → s ≤ d.length → n < 128 ^ s → ∃ w H',
    Ev (fun n' m => f57_L0 real (AC n') n' m v (.int .i64 (n : Int)) (.int .i64 ((128 ^ s : Nat) : Int)) (.int .i64 (s : Int)) H)
      (if (tkG (d.drop s) n s).2.2 = 0 then .tuple #[.int .i64 ((tkG (d.drop s) n s).1 : Int), w, .int .i64 0] else .tuple #[.int .i64 0, .slice none 0 0, .int .i64 (tkG (d.drop s) n s).2.2], H') ∧
      ((tkG (d.drop s) n s).2.2 = 0 → Acc (all H) H' 1 w (d.drop (tkG (d.drop s) n s).2.1).length (B (d.drop (tkG (d.drop s) n s).2.1))) ∧ Keep (all H) H H' := by
  intro k
  induction k with
  | zero =>
    intro s n hs hl hn
    obtain rfl : s = 8 := by omega
    have e : tkG (d.drop 8) n 8 = (0, 0, 4) := by cases d.drop 8 <;> simp [tkG]
    rw [e]
    refine ⟨nilS, H, ?_, fun h => by simp at h, Keep.refl _ _⟩
    refine Ev.step (fun n m => f57_L0.eq_2 _ _ _ _ _ _ _ _ _) ?_
    have e8 : (((8 : Nat) : Int) < 8) = False := by simp
    simp only [real_b, real_i, real_c, chk_t, bnd_some, bnd_up, iff_t, iff_f, gd_t, gd_f, wd_b, wd_u, pick_t, pick_f, b_lss, b_leq, b_gtr, b_geq, b_eql, b_neq, b_seql, b_sneq, b_add, b_sub, u_not, nilC_ptr, fAddr_ptr, Nat.zero_add, extr0, extr1, extr2, lenStr, decide_true, decide_false, bt_tt, bt_tf, bt_ft, bt_ff, bt_bne, Bool.not_true, Bool.not_false, Int.reduceBEq, Int.reduceBNe, extr30, extr31, e8]
    exact Ev.pure _
  | succ k ih =>
    intro s n hs hl hn
    have h8 : ((s : Int) < 8) = True := by simp; omega
    have h8' : ¬ s = 8 := by omega
    rcases Nat.lt_or_ge s d.length with hlt | hge
    · obtain ⟨c, hc, hdr⟩ := drop_at hlt
      obtain ⟨p, p1, p2⟩ := h.at1 (B_at hc)
      have hc256 := hd c (mem_at hc)
      have hne : ((s : Int) ≥ (d.length : Int)) = False := by simp; omega
      have hp : (128 : Nat) ^ s ≤ 128 ^ 7 := Nat.pow_le_pow_right (by decide) (by omega)
      have hp0 : 0 < (128 : Nat) ^ s := Nat.pow_pos (by decide)
      have hm0 : c % 128 * 128 ^ s ≤ 127 * 128 ^ s := Nat.mul_le_mul_right _ (by omega)
      have hm1 : 127 * (128 : Nat) ^ s ≤ 127 * 128 ^ 7 := Nat.mul_le_mul_left _ hp
      have hp' : (128 : Nat) ^ (s + 1) = 128 ^ s * 128 := Nat.pow_succ ..
      have e1 : IntKind.i64.wrap (((c % 128 : Nat) : Int) * ((128 ^ s : Nat) : Int)) = ((c % 128 * 128 ^ s : Nat) : Int) := by
        rw [← Int.natCast_mul, wrap_i64 (by omega) (by omega)]
      have e2 : IntKind.i64.wrap ((n : Int) + ((c % 128 * 128 ^ s : Nat) : Int)) = ((n + c % 128 * 128 ^ s : Nat) : Int) := by
        rw [← Int.natCast_add, wrap_i64 (by omega) (by omega)]
      have e3 : IntKind.i64.wrap (((128 ^ s : Nat) : Int) * 128) = ((128 ^ (s + 1) : Nat) : Int) := by
        rw [wrap_i64 (by omega) (by omega), hp']; omega
      rw [hdr, tkG, if_neg h8']
      by_cases hc1 : c < 128
      · have e4 : ((c : Int) ≥ 128) = False := by simp; omega
        rw [if_pos hc1]
        by_cases h0 : (c = 0 ∧ 0 < s) ∨ 9007199254740991 < n + c % 128 * 128 ^ s
        · rw [if_pos h0]
          refine ⟨nilS, H, ?_, fun h => by simp at h, Keep.refl _ _⟩
          refine Ev.step (fun n m => f57_L0.eq_2 _ _ _ _ _ _ _ _ _) ?_
          by_cases hc0 : c = 0
          · have e5 : ((c : Int) == 0) = true := by simpa using hc0
            by_cases hs0 : 0 < s
            · have e6 : ((s : Int) > 0) = True := by simp; omega
              simp only [real_b, real_i, real_c, chk_t, bnd_some, bnd_up, iff_t, iff_f, gd_t, gd_f, wd_b, wd_u, pick_t, pick_f, b_lss, b_leq, b_gtr, b_geq, b_eql, b_neq, b_seql, b_sneq, b_add, b_sub, u_not, nilC_ptr, fAddr_ptr, Nat.zero_add, extr0, extr1, extr2, lenStr, decide_true, decide_false, bt_tt, bt_tf, bt_ft, bt_ff, bt_bne, Bool.not_true, Bool.not_false, Int.reduceBEq, Int.reduceBNe, extr30, extr31, h8, h.lenS, hne, p1, p2, b_rem8, cv_i64 (show c % 128 < 9223372036854775808 by omega), b_mul, e1, e2, e3, e4, e5, e6]
              exact Ev.pure _
            · have e6 : ((s : Int) > 0) = False := by simp; omega
              have hbig : 9007199254740991 < n + c % 128 * 128 ^ s := h0.resolve_left (fun h => hs0 h.2)
              simp only [real_b, real_i, real_c, chk_t, bnd_some, bnd_up, iff_t, iff_f, gd_t, gd_f, wd_b, wd_u, pick_t, pick_f, b_lss, b_leq, b_gtr, b_geq, b_eql, b_neq, b_seql, b_sneq, b_add, b_sub, u_not, nilC_ptr, fAddr_ptr, Nat.zero_add, extr0, extr1, extr2, lenStr, decide_true, decide_false, bt_tt, bt_tf, bt_ft, bt_ff, bt_bne, Bool.not_true, Bool.not_false, Int.reduceBEq, Int.reduceBNe, extr30, extr31, h8, h.lenS, hne, p1, p2, b_rem8, cv_i64 (show c % 128 < 9223372036854775808 by omega), b_mul, e1, e2, e3, e4, e5, e6, big_t hbig]
              exact Ev.pure _
          · have e5 : ((c : Int) == 0) = false := by simpa using hc0
            have hbig : 9007199254740991 < n + c % 128 * 128 ^ s := h0.resolve_left (fun h => hc0 h.1)
            simp only [real_b, real_i, real_c, chk_t, bnd_some, bnd_up, iff_t, iff_f, gd_t, gd_f, wd_b, wd_u, pick_t, pick_f, b_lss, b_leq, b_gtr, b_geq, b_eql, b_neq, b_seql, b_sneq, b_add, b_sub, u_not, nilC_ptr, fAddr_ptr, Nat.zero_add, extr0, extr1, extr2, lenStr, decide_true, decide_false, bt_tt, bt_tf, bt_ft, bt_ff, bt_bne, Bool.not_true, Bool.not_false, Int.reduceBEq, Int.reduceBNe, extr30, extr31, h8, h.lenS, hne, p1, p2, b_rem8, cv_i64 (show c % 128 < 9223372036854775808 by omega), b_mul, e1, e2, e3, e4, e5, big_t hbig]
            exact Ev.pure _
        · rw [if_neg h0]
          have hbig : ¬ 9007199254740991 < n + c % 128 * 128 ^ s := fun h => h0 (.inr h)
          obtain ⟨v', v1, v2⟩ := By.from h (k := .i64) (i := s + 1) (by omega)
          obtain ⟨w, H', g1, g2, g3⟩ := copy_ok v2 (by simp; omega)
          refine ⟨w, H', ?_, fun _ => g2, g3⟩
          refine Ev.step (fun n m => f57_L0.eq_2 _ _ _ _ _ _ _ _ _) ?_
          by_cases hc0 : c = 0
          · have e5 : ((c : Int) == 0) = true := by simpa using hc0
            have e6 : ((s : Int) > 0) = False := by
              have : ¬ 0 < s := fun h => h0 (.inl ⟨hc0, h⟩)
              simp; omega
            simp only [real_b, real_i, real_c, chk_t, bnd_some, bnd_up, iff_t, iff_f, gd_t, gd_f, wd_b, wd_u, pick_t, pick_f, b_lss, b_leq, b_gtr, b_geq, b_eql, b_neq, b_seql, b_sneq, b_add, b_sub, u_not, nilC_ptr, fAddr_ptr, Nat.zero_add, extr0, extr1, extr2, lenStr, decide_true, decide_false, bt_tt, bt_tf, bt_ft, bt_ff, bt_bne, Bool.not_true, Bool.not_false, Int.reduceBEq, Int.reduceBNe, extr30, extr31, h8, h.lenS, hne, p1, p2, b_rem8, cv_i64 (show c % 128 < 9223372036854775808 by omega), b_mul, e1, e2, e3, e4, e5, e6, big_f hbig, idx_up (show s < 9223372036854775807 by omega), v1]
            refine Ev.callC g1 ?_
            exact Ev.pure _
          · have e5 : ((c : Int) == 0) = false := by simpa using hc0
            simp only [real_b, real_i, real_c, chk_t, bnd_some, bnd_up, iff_t, iff_f, gd_t, gd_f, wd_b, wd_u, pick_t, pick_f, b_lss, b_leq, b_gtr, b_geq, b_eql, b_neq, b_seql, b_sneq, b_add, b_sub, u_not, nilC_ptr, fAddr_ptr, Nat.zero_add, extr0, extr1, extr2, lenStr, decide_true, decide_false, bt_tt, bt_tf, bt_ft, bt_ff, bt_bne, Bool.not_true, Bool.not_false, Int.reduceBEq, Int.reduceBNe, extr30, extr31, h8, h.lenS, hne, p1, p2, b_rem8, cv_i64 (show c % 128 < 9223372036854775808 by omega), b_mul, e1, e2, e3, e4, e5, big_f hbig, idx_up (show s < 9223372036854775807 by omega), v1]
            refine Ev.callC g1 ?_
            exact Ev.pure _
      · have e4 : ((c : Int) ≥ 128) = True := by simp; omega
        rw [if_neg hc1]
        obtain ⟨w, H', g1, g2, g3⟩ := ih (s + 1) (n + c % 128 * 128 ^ s) (by omega) (by omega) (by omega)
        refine ⟨w, H', ?_, g2, g3⟩
        refine Ev.step (fun n m => f57_L0.eq_2 _ _ _ _ _ _ _ _ _) ?_
        simp only [real_b, real_i, real_c, chk_t, bnd_some, bnd_up, iff_t, iff_f, gd_t, gd_f, wd_b, wd_u, pick_t, pick_f, b_lss, b_leq, b_gtr, b_geq, b_eql, b_neq, b_seql, b_sneq, b_add, b_sub, u_not, nilC_ptr, fAddr_ptr, Nat.zero_add, extr0, extr1, extr2, lenStr, decide_true, decide_false, bt_tt, bt_tf, bt_ft, bt_ff, bt_bne, Bool.not_true, Bool.not_false, Int.reduceBEq, Int.reduceBNe, extr30, extr31, h8, h.lenS, hne, p1, p2, b_rem8, cv_i64 (show c % 128 < 9223372036854775808 by omega), b_mul, e1, e2, e3, e4, idx_up (show s < 9223372036854775807 by omega)]
        exact g1
    · have hs' : s = d.length := by omega
      have hdr : d.drop s = [] := List.drop_eq_nil_of_le (by omega)
      have hne : ((s : Int) ≥ (d.length : Int)) = True := by simp; omega
      rw [hdr, tkG, if_neg h8']
      refine ⟨nilS, H, ?_, fun h => by simp at h, Keep.refl _ _⟩
      refine Ev.step (fun n m => f57_L0.eq_2 _ _ _ _ _ _ _ _ _) ?_
      simp only [real_b, real_i, real_c, chk_t, bnd_some, bnd_up, iff_t, iff_f, gd_t, gd_f, wd_b, wd_u, pick_t, pick_f, b_lss, b_leq, b_gtr, b_geq, b_eql, b_neq, b_seql, b_sneq, b_add, b_sub, u_not, nilC_ptr, fAddr_ptr, Nat.zero_add, extr0, extr1, extr2, lenStr, decide_true, decide_false, bt_tt, bt_tf, bt_ft, bt_ff, bt_bne, Bool.not_true, Bool.not_false, Int.reduceBEq, Int.reduceBNe, extr30, extr31, h8, h.lenS, hne]
      exact Ev.pure _
theorem rtaken_ok {H : Heap} {v : Value} {d : List Nat} (h : By H d v) (hd : ∀ x ∈ d, x < 256) (hb : d.length ≤ mostBytes) :
    ∃ w H', Cl 57 [v] H (.tuple #[.int .i64 ((tN d).1 : Int), w, .int .i64 (tN d).2.2]) H' ∧ Acc (all H) H' 1 w (tN d).2.1.length (B (tN d).2.1) ∧ Keep (all H) H H' := by
  obtain ⟨w, H', g1, g2, g3⟩ := rtake_loop h hd hb 8 0 0 (by omega) (by omega) (by decide)
  have e : tkG (d.drop 0) 0 0 = tk d := rfl
  rw [e] at g1 g2
  have g1' := g1.loop
  rcases tk_says d with ht | ht
  · have hn : tN d = ((tk d).1, d.drop (tk d).2.1, 0) := by unfold tN; rw [if_pos ht.1]
    rw [if_pos ht.1] at g1'
    rw [hn]
    exact ⟨w, H', Ev.enter (fun n => f57_eq rfl n _ _) g1', g2 ht.1, g3⟩
  · have h0 : (tk d).2.2 ≠ 0 := by omega
    have hn : tN d = (0, [], (tk d).2.2) := by unfold tN; rw [if_neg h0]
    rw [if_neg h0] at g1'
    rw [hn]
    exact ⟨nilS, H', Ev.enter (fun n => f57_eq rfl n _ _) g1', Acc.nil, g3⟩
theorem rtaketext_ok {H : Heap} {v : Value} {d : List Nat} {m : Nat} (h : By H d v) (hd : ∀ x ∈ d, x < 256) (hb : d.length ≤ mostBytes) :
    ∃ w w' H', Cl 58 [v, .int .i64 (m : Int)] H (.tuple #[w, w', .int .i64 (tT m d).2.2]) H' ∧ Acc (all H) H' 1 w (tT m d).1.length (B (tT m d).1) ∧ Acc (all H) H' 1 w' (tT m d).2.1.length (B (tT m d).2.1) ∧ Keep (all H) H H' := by
  have hm : ((m : Int) < 0) = False := by simp
  obtain ⟨r, H1, g1, g2, g3⟩ := rtaken_ok h hd hb
  have hlen := tN_len d
  by_cases h0 : (tN d).2.2 = 0
  · by_cases hm1 : m < (tN d).1
    · have hT : tT m d = ([], [], 5) := by simp [tT, h0, hm1]
      rw [hT]
      refine ⟨nilS, nilS, H1, ?_, Acc.nil, Acc.nil, g3⟩
      refine Ev.enter (fun n => f58_eq rfl n _ _ _) ?_
      simp only [f58, real_b, real_i, real_c, chk_t, bnd_some, bnd_up, iff_t, iff_f, gd_t, gd_f, wd_b, wd_u, pick_t, pick_f, b_lss, b_leq, b_gtr, b_geq, b_eql, b_neq, b_seql, b_sneq, b_add, b_sub, u_not, nilC_ptr, fAddr_ptr, Nat.zero_add, extr0, extr1, extr2, lenStr, decide_true, decide_false, bt_tt, bt_tf, bt_ft, bt_ff, bt_bne, Bool.not_true, Bool.not_false, Int.reduceBEq, Int.reduceBNe, extr30, extr31, hm]
      refine Ev.callC g1 ?_
      have e : (((tN d).1 : Int) > (m : Int)) = True := by simp; omega
      simp only [real_b, real_i, real_c, chk_t, bnd_some, bnd_up, iff_t, iff_f, gd_t, gd_f, wd_b, wd_u, pick_t, pick_f, b_lss, b_leq, b_gtr, b_geq, b_eql, b_neq, b_seql, b_sneq, b_add, b_sub, u_not, nilC_ptr, fAddr_ptr, Nat.zero_add, extr0, extr1, extr2, lenStr, decide_true, decide_false, bt_tt, bt_tf, bt_ft, bt_ff, bt_bne, Bool.not_true, Bool.not_false, Int.reduceBEq, Int.reduceBNe, extr30, extr31, h0, e]
      exact Ev.pure _
    · have e : (((tN d).1 : Int) > (m : Int)) = False := by simp; omega
      by_cases hl : (tN d).2.1.length < (tN d).1
      · have hT : tT m d = ([], [], 3) := by simp [tT, h0, hm1, hl]
        rw [hT]
        refine ⟨nilS, nilS, H1, ?_, Acc.nil, Acc.nil, g3⟩
        refine Ev.enter (fun n => f58_eq rfl n _ _ _) ?_
        simp only [f58, real_b, real_i, real_c, chk_t, bnd_some, bnd_up, iff_t, iff_f, gd_t, gd_f, wd_b, wd_u, pick_t, pick_f, b_lss, b_leq, b_gtr, b_geq, b_eql, b_neq, b_seql, b_sneq, b_add, b_sub, u_not, nilC_ptr, fAddr_ptr, Nat.zero_add, extr0, extr1, extr2, lenStr, decide_true, decide_false, bt_tt, bt_tf, bt_ft, bt_ff, bt_bne, Bool.not_true, Bool.not_false, Int.reduceBEq, Int.reduceBNe, extr30, extr31, hm]
        refine Ev.callC g1 ?_
        have e2 : (((tN d).1 : Int) > ((tN d).2.1.length : Int)) = True := by simp; omega
        simp only [real_b, real_i, real_c, chk_t, bnd_some, bnd_up, iff_t, iff_f, gd_t, gd_f, wd_b, wd_u, pick_t, pick_f, b_lss, b_leq, b_gtr, b_geq, b_eql, b_neq, b_seql, b_sneq, b_add, b_sub, u_not, nilC_ptr, fAddr_ptr, Nat.zero_add, extr0, extr1, extr2, lenStr, decide_true, decide_false, bt_tt, bt_tf, bt_ft, bt_ff, bt_bne, Bool.not_true, Bool.not_false, Int.reduceBEq, Int.reduceBNe, extr30, extr31, h0, e, g2.sl.lenS, e2]
        exact Ev.pure _
      · have hT : tT m d = ((tN d).2.1.take (tN d).1, (tN d).2.1.drop (tN d).1, 0) := by simp [tT, h0, hm1, hl]
        have e2 : (((tN d).1 : Int) > ((tN d).2.1.length : Int)) = False := by simp; omega
        obtain ⟨v1, v11, v12⟩ := By.upto g2.sl (i := (tN d).1) (by omega)
        obtain ⟨v2, v21, v22⟩ := By.from g2.sl (k := .i64) (i := (tN d).1) (by omega)
        obtain ⟨w, H2, k1, k2, k3⟩ := copy_ok v12 (by simp; omega)
        obtain ⟨w', H3, l1, l2, l3⟩ := copy_ok (v22.up k3) (by simp; omega)
        rw [hT]
        refine ⟨w, w', H3, ?_, (k2.keep l3).low (upA g3), l2.low (fun b hb => upA k3 b (upA g3 b hb)), g3.tr (k3.tr l3)⟩
        refine Ev.enter (fun n => f58_eq rfl n _ _ _) ?_
        simp only [f58, real_b, real_i, real_c, chk_t, bnd_some, bnd_up, iff_t, iff_f, gd_t, gd_f, wd_b, wd_u, pick_t, pick_f, b_lss, b_leq, b_gtr, b_geq, b_eql, b_neq, b_seql, b_sneq, b_add, b_sub, u_not, nilC_ptr, fAddr_ptr, Nat.zero_add, extr0, extr1, extr2, lenStr, decide_true, decide_false, bt_tt, bt_tf, bt_ft, bt_ff, bt_bne, Bool.not_true, Bool.not_false, Int.reduceBEq, Int.reduceBNe, extr30, extr31, hm]
        refine Ev.callC g1 ?_
        simp only [real_b, real_i, real_c, chk_t, bnd_some, bnd_up, iff_t, iff_f, gd_t, gd_f, wd_b, wd_u, pick_t, pick_f, b_lss, b_leq, b_gtr, b_geq, b_eql, b_neq, b_seql, b_sneq, b_add, b_sub, u_not, nilC_ptr, fAddr_ptr, Nat.zero_add, extr0, extr1, extr2, lenStr, decide_true, decide_false, bt_tt, bt_tf, bt_ft, bt_ff, bt_bne, Bool.not_true, Bool.not_false, Int.reduceBEq, Int.reduceBNe, extr30, extr31, h0, e, g2.sl.lenS, e2, v11]
        refine Ev.callC k1 ?_
        simp only [real_b, real_i, real_c, chk_t, bnd_some, bnd_up, iff_t, iff_f, gd_t, gd_f, wd_b, wd_u, pick_t, pick_f, b_lss, b_leq, b_gtr, b_geq, b_eql, b_neq, b_seql, b_sneq, b_add, b_sub, u_not, nilC_ptr, fAddr_ptr, Nat.zero_add, extr0, extr1, extr2, lenStr, decide_true, decide_false, bt_tt, bt_tf, bt_ft, bt_ff, bt_bne, Bool.not_true, Bool.not_false, Int.reduceBEq, Int.reduceBNe, extr30, extr31, v21]
        refine Ev.callC l1 ?_
        exact Ev.pure _
  · have hT : tT m d = ([], [], (tN d).2.2) := by simp [tT, h0]
    rw [hT]
    refine ⟨nilS, nilS, H1, ?_, Acc.nil, Acc.nil, g3⟩
    refine Ev.enter (fun n => f58_eq rfl n _ _ _) ?_
    simp only [f58, real_b, real_i, real_c, chk_t, bnd_some, bnd_up, iff_t, iff_f, gd_t, gd_f, wd_b, wd_u, pick_t, pick_f, b_lss, b_leq, b_gtr, b_geq, b_eql, b_neq, b_seql, b_sneq, b_add, b_sub, u_not, nilC_ptr, fAddr_ptr, Nat.zero_add, extr0, extr1, extr2, lenStr, decide_true, decide_false, bt_tt, bt_tf, bt_ft, bt_ff, bt_bne, Bool.not_true, Bool.not_false, Int.reduceBEq, Int.reduceBNe, extr30, extr31, hm]
    refine Ev.callC g1 ?_
    have e : ((tN d).2.2 != 0) = true := by simpa using h0
    simp only [real_b, real_i, real_c, chk_t, bnd_some, bnd_up, iff_t, iff_f, gd_t, gd_f, wd_b, wd_u, pick_t, pick_f, b_lss, b_leq, b_gtr, b_geq, b_eql, b_neq, b_seql, b_sneq, b_add, b_sub, u_not, nilC_ptr, fAddr_ptr, Nat.zero_add, extr0, extr1, extr2, lenStr, decide_true, decide_false, bt_tt, bt_tf, bt_ft, bt_ff, bt_bne, Bool.not_true, Bool.not_false, Int.reduceBEq, Int.reduceBNe, extr30, extr31, e]
    exact Ev.pure _
end Go.Eng
