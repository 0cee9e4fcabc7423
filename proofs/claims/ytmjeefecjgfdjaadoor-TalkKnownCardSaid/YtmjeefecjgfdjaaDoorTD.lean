/- Bytes: copied, held against each other, taken apart. -/
import Derived.Test.YtmjeefecjgfdjaaDoorTC
set_option linter.unusedVariables false
set_option linter.unusedSimpArgs false
namespace Go.Eng
open Go Go.Proofs

/-! ### parts of slices -/
section
variable {R : Nat → Prop} {H : Heap} {n i j : Nat} {v : Value} {cs : List Value}
theorem Sl.drop (h : Sl R H 1 v n cs) {k : IntKind} (hi : i ≤ n) : ∃ v', slcS 1 v (some (.int k (i : Int))) none none = some v' ∧ Sl R H 1 v' (n - i) (cs.drop i) := by
  rcases h with ⟨rfl, rfl, rfl⟩ | ⟨b, o, sp, cap, rfl, h2, rfl, rfl⟩ | ⟨b, o, sp, cap, blk, rfl, h2, h3, h4, h5, rfl⟩
  · obtain rfl : i = 0 := by omega
    exact ⟨.slice none 0 0, rfl, .inl ⟨rfl, rfl, rfl⟩⟩
  · obtain rfl : i = 0 := by omega
    exact ⟨.slice (some ⟨b, o, sp⟩) 0 cap, by simp [slcS, bound], .inr (.inl ⟨b, o, sp, cap, rfl, h2, rfl, rfl⟩)⟩
  · refine ⟨.slice (some ⟨b, o + i * 1, sp⟩) (n - i) (cap - i), ?_, .inr (.inr ⟨b, o + i * 1, sp, cap - i, blk, rfl, h2, h3, by omega, by omega, ?_⟩)⟩
    · simp only [slcS, bound]
      rw [if_pos (by omega)]
      simp only [Int.toNat_natCast, Option.isNone_none, Bool.true_or, and_true]
      rw [if_pos (by omega)]
      simp
    · simp only [cut, Nat.mul_one, List.drop_take, List.drop_drop]
theorem Sl.part (h : Sl R H 1 v n cs) {k k' : IntKind} (hi : i ≤ j) (hj : j ≤ n) : ∃ v', slcS 1 v (some (.int k (i : Int))) (some (.int k' (j : Int))) none = some v' ∧ Sl R H 1 v' (j - i) ((cs.drop i).take (j - i)) := by
  rcases h with ⟨rfl, rfl, rfl⟩ | ⟨b, o, sp, cap, rfl, h2, rfl, rfl⟩ | ⟨b, o, sp, cap, blk, rfl, h2, h3, h4, h5, rfl⟩
  · obtain rfl : i = 0 := by omega
    obtain rfl : j = 0 := by omega
    exact ⟨.slice none 0 0, rfl, .inl ⟨rfl, rfl, rfl⟩⟩
  · obtain rfl : i = 0 := by omega
    obtain rfl : j = 0 := by omega
    exact ⟨.slice (some ⟨b, o, sp⟩) 0 cap, by simp [slcS, bound], .inr (.inl ⟨b, o, sp, cap, rfl, h2, rfl, rfl⟩)⟩
  · refine ⟨.slice (some ⟨b, o + i * 1, sp⟩) (j - i) (cap - i), ?_, .inr (.inr ⟨b, o + i * 1, sp, cap - i, blk, rfl, h2, h3, by omega, by omega, ?_⟩)⟩
    · simp only [slcS, bound]
      rw [if_pos (by omega), if_pos (by omega)]
      simp only [Int.toNat_natCast, Option.isNone_none, Bool.true_or, and_true]
      rw [if_pos (by omega)]
      simp
    · simp only [cut, Nat.mul_one, List.drop_take, List.drop_drop, List.take_take]
      rw [Nat.min_eq_left (by omega)]
end
theorem B_drop (l : List Nat) (i : Nat) : (B l).drop i = B (l.drop i) := by simp [B, List.map_drop]
theorem B_take (l : List Nat) (i : Nat) : (B l).take i = B (l.take i) := by simp [B, List.map_take]
/-- Bytes that may be read. -/
abbrev By (H : Heap) (d : List Nat) (v : Value) : Prop := Sl (all H) H 1 v d.length (B d)
theorem By.from {R : Nat → Prop} {H : Heap} {d : List Nat} {v : Value} (h : Sl R H 1 v d.length (B d)) {k : IntKind} {i : Nat} (hi : i ≤ d.length) : ∃ v', slcS 1 v (some (.int k (i : Int))) none none = some v' ∧ Sl R H 1 v' (d.drop i).length (B (d.drop i)) := by
  obtain ⟨v', h1, h2⟩ := h.drop (k := k) hi
  exact ⟨v', h1, by rw [B_drop] at h2; simpa using h2⟩
theorem By.upto {R : Nat → Prop} {H : Heap} {d : List Nat} {v : Value} (h : Sl R H 1 v d.length (B d)) {i : Nat} (hi : i ≤ d.length) : ∃ v', slcS 1 v none (some (.int .i64 (i : Int))) none = some v' ∧ Sl R H 1 v' (d.take i).length (B (d.take i)) := by
  obtain ⟨v', h1, h2⟩ := h.take hi
  exact ⟨v', h1, by rw [B_take] at h2; simpa [Nat.min_eq_left hi] using h2⟩
theorem By.part {R : Nat → Prop} {H : Heap} {d : List Nat} {v : Value} (h : Sl R H 1 v d.length (B d)) {k k' : IntKind} {i j : Nat} (hi : i ≤ j) (hj : j ≤ d.length) : ∃ v', slcS 1 v (some (.int k (i : Int))) (some (.int k' (j : Int))) none = some v' ∧ Sl R H 1 v' ((d.drop i).take (j - i)).length (B ((d.drop i).take (j - i))) := by
  obtain ⟨v', h1, h2⟩ := h.part (k := k) (k' := k') hi hj
  exact ⟨v', h1, by rw [B_drop, B_take] at h2; simpa [Nat.min_eq_left (show j - i ≤ d.length - i by omega)] using h2⟩

/-! ### copies -/
theorem copy_ok {H : Heap} {v : Value} {d : List Nat} (h : By H d v) (hb : d.length ≤ mostBytes) : ∃ w H', Cl 10 [v] H w H' ∧ Acc (all H) H' 1 w d.length (B d) ∧ Keep (all H) H H' := by
  obtain ⟨w, H', g1, g2, g3⟩ := (Acc.nil (R := all H) (H := H) (sz := 1)).app (by_ := 1) (Rb.all H) h.addend h.len (by omega)
  refine ⟨w, H', ?_, by simpa using g2, g3⟩
  refine Ev.enter (fun n => f10_eq rfl n _ _) ?_
  simp only [f10, real_b, real_i, real_c, chk_t, bnd_some, bnd_up, iff_t, iff_f, gd_t, gd_f, wd_b, wd_u, pick_t, pick_f, b_lss, b_leq, b_gtr, b_geq, b_eql, b_neq, b_seql, b_sneq, b_add, b_sub, u_not, nilC_ptr, fAddr_ptr, Nat.zero_add, extr0, extr1, extr2, lenStr, decide_true, decide_false, bt_tt, bt_tf, bt_ft, bt_ff, bt_bne, Bool.not_true, Bool.not_false, Int.reduceBEq, Int.reduceBNe, extr30, extr31, g1]
  exact Ev.pure _
theorem b_isnil {R : Nat → Prop} {H : Heap} {n : Nat} {v : Value} {cs : List Value} (h : Sl R H 1 v n cs) : ∃ t, binB Tryd.prog .eql 22 v (.slice none 0 0) = some (.bool t) ∧ (t = true → n = 0 ∧ cs = []) := by
  have e : Tryd.prog.underlying 22 = some (.slice 5) := Tryd.underlying22
  rcases h with ⟨rfl, rfl, rfl⟩ | ⟨b, o, sp, cap, rfl, h2, rfl, rfl⟩ | ⟨b, o, sp, cap, blk, rfl, h2⟩
  · exact ⟨true, by simp [binB, eqV, e], fun _ => ⟨rfl, rfl⟩⟩
  · exact ⟨false, by simp [binB, eqV, e], fun h => by cases h⟩
  · exact ⟨false, by simp [binB, eqV, e], fun h => by cases h⟩
theorem bld0 {H : Heap} {z : Value} : bldS 1 0 [z] [] H = some (.slice (some ⟨H.n, 0, none⟩) 0 0, H.push ⟨[], 1, true⟩) := by simp [bldS, rep, fillC, newS]
theorem own0 {H : Heap} : Acc (all H) (H.push ⟨[], 1, true⟩) 1 (.slice (some ⟨H.n, 0, none⟩) 0 0) 0 [] := .inr ⟨H.n, rfl, Nat.lt_irrefl _, by simp [push_n], push_self, rfl⟩
theorem clone_ok {H : Heap} {v : Value} {d : List Nat} (h : By H d v) (hb : d.length ≤ mostBytes) : ∃ w H', Cl 73 [v] H w H' ∧ Acc (all H) H' 1 w d.length (B d) ∧ Keep (all H) H H' := by
  obtain ⟨t, t1, t2⟩ := b_isnil h
  cases t with
  | true =>
    have hd : d = [] := List.length_eq_zero_iff.1 (t2 rfl).1
    subst hd
    refine ⟨nilS, H, ?_, Acc.nil, Keep.refl _ _⟩
    refine Ev.enter (fun n => f73_eq rfl n _ _) ?_
    simp only [f73, real_b, real_i, real_c, chk_t, bnd_some, bnd_up, iff_t, iff_f, gd_t, gd_f, wd_b, wd_u, pick_t, pick_f, b_lss, b_leq, b_gtr, b_geq, b_eql, b_neq, b_seql, b_sneq, b_add, b_sub, u_not, nilC_ptr, fAddr_ptr, Nat.zero_add, extr0, extr1, extr2, lenStr, decide_true, decide_false, bt_tt, bt_tf, bt_ft, bt_ff, bt_bne, Bool.not_true, Bool.not_false, Int.reduceBEq, Int.reduceBNe, extr30, extr31, t1]
    exact Ev.pure _
  | false =>
    have k1 : Keep (all H) H (H.push ⟨[], 1, true⟩) := push_keep
    obtain ⟨w, H', g1, g2, g3⟩ := (own0 (H := H)).app (by_ := 1) ((Rb.all H).mono k1.1) (h.keep k1).addend h.len (by omega)
    refine ⟨w, H', ?_, by simpa using g2, k1.trans g3⟩
    refine Ev.enter (fun n => f73_eq rfl n _ _) ?_
    simp only [f73, real_b, real_i, real_c, chk_t, bnd_some, bnd_up, iff_t, iff_f, gd_t, gd_f, wd_b, wd_u, pick_t, pick_f, b_lss, b_leq, b_gtr, b_geq, b_eql, b_neq, b_seql, b_sneq, b_add, b_sub, u_not, nilC_ptr, fAddr_ptr, Nat.zero_add, extr0, extr1, extr2, lenStr, decide_true, decide_false, bt_tt, bt_tf, bt_ft, bt_ff, bt_bne, Bool.not_true, Bool.not_false, Int.reduceBEq, Int.reduceBNe, extr30, extr31, t1, bld0, g1]
    exact Ev.pure _
theorem bclone_ok {H : Heap} {v : Value} {d : List Nat} (h : By H d v) (hb : d.length ≤ mostBytes) : ∃ w H', Cl 53 [v] H w H' ∧ Acc (all H) H' 1 w d.length (B d) ∧ Keep (all H) H H' := by
  obtain ⟨t, t1, t2⟩ := b_isnil h
  cases t with
  | true =>
    have hd : d = [] := List.length_eq_zero_iff.1 (t2 rfl).1
    subst hd
    refine ⟨nilS, H, ?_, Acc.nil, Keep.refl _ _⟩
    refine Ev.enter (fun n => f53_eq rfl n _ _) ?_
    simp only [f53, real_b, real_i, real_c, chk_t, bnd_some, bnd_up, iff_t, iff_f, gd_t, gd_f, wd_b, wd_u, pick_t, pick_f, b_lss, b_leq, b_gtr, b_geq, b_eql, b_neq, b_seql, b_sneq, b_add, b_sub, u_not, nilC_ptr, fAddr_ptr, Nat.zero_add, extr0, extr1, extr2, lenStr, decide_true, decide_false, bt_tt, bt_tf, bt_ft, bt_ff, bt_bne, Bool.not_true, Bool.not_false, Int.reduceBEq, Int.reduceBNe, extr30, extr31, t1]
    exact Ev.pure _
  | false =>
    have k1 : Keep (all H) H (H.push ⟨[], 1, true⟩) := push_keep
    obtain ⟨w, H', g1, g2, g3⟩ := (own0 (H := H)).app (by_ := 1) ((Rb.all H).mono k1.1) (h.keep k1).addend h.len (by omega)
    refine ⟨w, H', ?_, by simpa using g2, k1.trans g3⟩
    refine Ev.enter (fun n => f53_eq rfl n _ _) ?_
    simp only [f53, real_b, real_i, real_c, chk_t, bnd_some, bnd_up, iff_t, iff_f, gd_t, gd_f, wd_b, wd_u, pick_t, pick_f, b_lss, b_leq, b_gtr, b_geq, b_eql, b_neq, b_seql, b_sneq, b_add, b_sub, u_not, nilC_ptr, fAddr_ptr, Nat.zero_add, extr0, extr1, extr2, lenStr, decide_true, decide_false, bt_tt, bt_tf, bt_ft, bt_ff, bt_bne, Bool.not_true, Bool.not_false, Int.reduceBEq, Int.reduceBNe, extr30, extr31, t1, bld0, g1]
    exact Ev.pure _

theorem eq_loop {R : Nat → Prop} {H : Heap} {v1 v2 : Value} {a b : List Nat} (h1 : Sl R H 1 v1 a.length (B a)) (h2 : Sl R H 1 v2 b.length (B b)) (hl : a.length = b.length) (hb : a.length < 9223372036854775807) :
    ∀ (k i : Nat), i + k = a.length → Ev (fun n m => f13_L0 real (AC n) n m v1 v2 (.int .i64 (i : Int)) H) (.bool (decide (a.drop i = b.drop i)), H) := by
  intro k
  induction k with
  | zero =>
    intro i hi
    refine Ev.step (fun n m => f13_L0.eq_2 _ _ _ _ _ _ _ _) ?_
    have e : decide (a.drop i = b.drop i) = true := by
      rw [List.drop_eq_nil_of_le (by omega), List.drop_eq_nil_of_le (by omega)]; simp
    simp only [real_b, real_i, real_c, chk_t, bnd_some, bnd_up, iff_t, iff_f, gd_t, gd_f, wd_b, wd_u, pick_t, pick_f, b_lss, b_leq, b_gtr, b_geq, b_eql, b_neq, b_seql, b_sneq, b_add, b_sub, u_not, nilC_ptr, fAddr_ptr, Nat.zero_add, extr0, extr1, extr2, lenStr, decide_true, decide_false, bt_tt, bt_tf, bt_ft, bt_ff, bt_bne, Bool.not_true, Bool.not_false, Int.reduceBEq, Int.reduceBNe, extr30, extr31, h1.lenS, idx_ge (show a.length ≤ i by omega), e]
    exact Ev.pure _
  | succ k ih =>
    intro i hi
    obtain ⟨x, x1, x2⟩ := drop_at (l := a) (i := i) (by omega)
    obtain ⟨y, y1, y2⟩ := drop_at (l := b) (i := i) (by omega)
    obtain ⟨p, p1, p2⟩ := h1.at1 (B_at x1)
    obtain ⟨q, q1, q2⟩ := h2.at1 (B_at y1)
    refine Ev.step (fun n m => f13_L0.eq_2 _ _ _ _ _ _ _ _) ?_
    by_cases hxy : x = y
    · subst hxy
      simp only [real_b, real_i, real_c, chk_t, bnd_some, bnd_up, iff_t, iff_f, gd_t, gd_f, wd_b, wd_u, pick_t, pick_f, b_lss, b_leq, b_gtr, b_geq, b_eql, b_neq, b_seql, b_sneq, b_add, b_sub, u_not, nilC_ptr, fAddr_ptr, Nat.zero_add, extr0, extr1, extr2, lenStr, decide_true, decide_false, bt_tt, bt_tf, bt_ft, bt_ff, bt_bne, Bool.not_true, Bool.not_false, Int.reduceBEq, Int.reduceBNe, extr30, extr31, h1.lenS, idx_lt (show i < a.length by omega), p1, p2, q1, q2, idx_up (show i < 9223372036854775807 by omega)]
      have := ih (i + 1) (by omega)
      rw [x2, y2]
      simpa using this
    · have hn : ((x : Int) != (y : Int)) = true := by simp; omega
      simp only [real_b, real_i, real_c, chk_t, bnd_some, bnd_up, iff_t, iff_f, gd_t, gd_f, wd_b, wd_u, pick_t, pick_f, b_lss, b_leq, b_gtr, b_geq, b_eql, b_neq, b_seql, b_sneq, b_add, b_sub, u_not, nilC_ptr, fAddr_ptr, Nat.zero_add, extr0, extr1, extr2, lenStr, decide_true, decide_false, bt_tt, bt_tf, bt_ft, bt_ff, bt_bne, Bool.not_true, Bool.not_false, Int.reduceBEq, Int.reduceBNe, extr30, extr31, h1.lenS, idx_lt (show i < a.length by omega), p1, p2, q1, q2, hn]
      rw [x2, y2]
      have : decide (x :: a.drop (i + 1) = y :: b.drop (i + 1)) = false := by simp [hxy]
      rw [this]
      exact Ev.pure _
theorem eq_ok {R : Nat → Prop} {H : Heap} {v1 v2 : Value} {a b : List Nat} (h1 : Sl R H 1 v1 a.length (B a)) (h2 : Sl R H 1 v2 b.length (B b)) (hb : a.length < 9223372036854775807) : Cl 13 [v1, v2] H (.bool (decide (a = b))) H := by
  refine Ev.enter (fun n => f13_eq rfl n _ _ _) ?_
  by_cases hl : a.length = b.length
  · have hn : ((a.length : Int) != (b.length : Int)) = false := by simp; omega
    simp only [f13, real_b, real_i, real_c, chk_t, bnd_some, bnd_up, iff_t, iff_f, gd_t, gd_f, wd_b, wd_u, pick_t, pick_f, b_lss, b_leq, b_gtr, b_geq, b_eql, b_neq, b_seql, b_sneq, b_add, b_sub, u_not, nilC_ptr, fAddr_ptr, Nat.zero_add, extr0, extr1, extr2, lenStr, decide_true, decide_false, bt_tt, bt_tf, bt_ft, bt_ff, bt_bne, Bool.not_true, Bool.not_false, Int.reduceBEq, Int.reduceBNe, extr30, extr31, h1.lenS, h2.lenS, hn]
    have := (eq_loop h1 h2 hl hb a.length 0 (by omega)).loop
    simpa using this
  · have hn : ((a.length : Int) != (b.length : Int)) = true := by simp; omega
    simp only [f13, real_b, real_i, real_c, chk_t, bnd_some, bnd_up, iff_t, iff_f, gd_t, gd_f, wd_b, wd_u, pick_t, pick_f, b_lss, b_leq, b_gtr, b_geq, b_eql, b_neq, b_seql, b_sneq, b_add, b_sub, u_not, nilC_ptr, fAddr_ptr, Nat.zero_add, extr0, extr1, extr2, lenStr, decide_true, decide_false, bt_tt, bt_tf, bt_ft, bt_ff, bt_bne, Bool.not_true, Bool.not_false, Int.reduceBEq, Int.reduceBNe, extr30, extr31, h1.lenS, h2.lenS, hn]
    have : decide (a = b) = false := by
      simp; intro h; exact hl (by rw [h])
    rw [this]
    exact Ev.pure _

/-! ### numbers taken off -/
/-- A number's value, how many bytes it has, and why it is none. -/
def tkG : List Nat → Nat → Nat → Nat × Nat × Int
  | [], _, s => if s = 8 then (0, 0, 4) else (0, 0, 3)
  | c :: r, n, s => if s = 8 then (0, 0, 4) else
    if c < 128 then (if (c = 0 ∧ 0 < s) ∨ 9007199254740991 < n + c % 128 * 128 ^ s then (0, 0, 4) else (n + c % 128 * 128 ^ s, s + 1, 0)) else tkG r (n + c % 128 * 128 ^ s) (s + 1)
set_option maxRecDepth 100000 in
theorem andn128 : ∀ x : Fin 256, (BitVec.ofInt 8 (x.val : Int) &&& ~~~ BitVec.ofInt 8 128).toNat = x.val % 128 := by decide
set_option maxRecDepth 100000 in
theorem and128 : ∀ x : Fin 256, (BitVec.ofInt 8 (x.val : Int) &&& BitVec.ofInt 8 128).toNat = if x.val < 128 then 0 else 128 := by decide
theorem b_andn {P : Program} {t : TypeId} {c : Nat} (h : c < 256) : binB P .andNot t (.int .u8 (c : Int)) (.int .u8 128) = some (.int .u8 ((c % 128 : Nat) : Int)) := by
  have e : (BitVec.ofInt IntKind.u8.bits (c : Int) &&& ~~~ BitVec.ofInt IntKind.u8.bits 128).toNat = c % 128 := andn128 ⟨c, h⟩
  simp only [binB, intB, if_true, e]
  rw [wrap_u8 (by omega) (by omega)]
theorem b_and128 {P : Program} {t : TypeId} {c : Nat} (h : c < 256) : binB P .and t (.int .u8 (c : Int)) (.int .u8 128) = some (.int .u8 (if c < 128 then 0 else 128)) := by
  have e : (BitVec.ofInt IntKind.u8.bits (c : Int) &&& BitVec.ofInt IntKind.u8.bits 128).toNat = if c < 128 then 0 else 128 := and128 ⟨c, h⟩
  simp only [binB, intB, if_true, e]
  by_cases hc : c < 128
  · rw [if_pos hc, if_pos hc]; rfl
  · rw [if_neg hc, if_neg hc]; rfl
theorem b_or64 {P : Program} {t : TypeId} {n a k : Nat} (h : n < 2 ^ k) (h' : n + a * 2 ^ k < 9223372036854775808) : binB P .or t (.int .i64 (n : Int)) (.int .i64 ((a * 2 ^ k : Nat) : Int)) = some (.int .i64 ((n + a * 2 ^ k : Nat) : Int)) := by
  have e : (BitVec.ofInt IntKind.i64.bits (n : Int) ||| BitVec.ofInt IntKind.i64.bits ((a * 2 ^ k : Nat) : Int)).toNat = n + a * 2 ^ k := by
    show (BitVec.ofInt 64 (n : Int) ||| BitVec.ofInt 64 ((a * 2 ^ k : Nat) : Int)).toNat = n + a * 2 ^ k
    rw [BitVec.toNat_or, BitVec.ofInt_natCast, BitVec.ofInt_natCast, BitVec.toNat_ofNat, BitVec.toNat_ofNat, Nat.mod_eq_of_lt (by omega), Nat.mod_eq_of_lt (by omega)]
    rw [Nat.or_comm, Nat.mul_comm a, ← Nat.two_pow_add_eq_or_of_lt h]
    omega
  simp only [binB, intB, if_true, e]
  rw [wrap_i64 (by omega) (by omega)]
theorem cv_i64 {k : IntKind} {c : Nat} {H : Heap} (h : c < 9223372036854775808) : cvI .i64 (.int k (c : Int)) H = some (.int .i64 (c : Int), H) := by simp only [cvI, wrap_i64 (show (-9223372036854775808 : Int) ≤ (c : Int) by omega) (by omega)]
theorem b_shl7 {P : Program} {t : TypeId} {c s : Nat} (hc : c < 128) (hs : s < 8) : binB P .shl t (.int .i64 (c : Int)) (.int .i64 ((7 * s : Nat) : Int)) = some (.int .i64 ((c * 2 ^ (7 * s) : Nat) : Int)) := by
  have h2 : (2 : Nat) ^ (7 * s) ≤ 2 ^ 49 := Nat.pow_le_pow_right (by decide) (by omega)
  have h3 : c * 2 ^ (7 * s) ≤ 127 * 2 ^ 49 := Nat.mul_le_mul (by omega) h2
  have e : min ((7 * s : Nat) : Int).toNat IntKind.i64.bits = 7 * s := by simp [IntKind.bits]; omega
  have hn : ¬ (((7 * s : Nat) : Int) < 0) := by omega
  simp only [binB, shiftB, if_neg hn, e]
  rw [show ((c : Int) * 2 ^ (7 * s)) = ((c * 2 ^ (7 * s) : Nat) : Int) by push_cast; rfl, wrap_i64 (by omega) (by omega)]
theorem pow128 (s : Nat) : (128 : Nat) ^ s = 2 ^ (7 * s) := by rw [Nat.pow_mul]

theorem big_t {n : Nat} (h : 9007199254740991 < n) : ((n : Int) > 9007199254740991) = True := by simp; omega
theorem big_f {n : Nat} (h : ¬ 9007199254740991 < n) : ((n : Int) > 9007199254740991) = False := by simp; omega
theorem take_loop {R : Nat → Prop} {H : Heap} {v : Value} {d : List Nat} (h : Sl R H 1 v d.length (B d)) (hd : ∀ x ∈ d, x < 256) : ∀ (k s n : Nat), s + k = 8 → s ≤ d.length → n < 128 ^ s →
    Ev (fun n' m => f72_L0 real (AC n') n' m v (.int .i64 (n : Int)) (.int .i64 (s : Int)) H) (.tuple #[.int .i64 ((tkG (d.drop s) n s).1 : Int), .int .i64 ((tkG (d.drop s) n s).2.1 : Int), .int .i64 (tkG (d.drop s) n s).2.2], H) := by
  intro k
  induction k with
  | zero =>
    intro s n hs hl hn
    obtain rfl : s = 8 := by omega
    have e : tkG (d.drop 8) n 8 = (0, 0, 4) := by cases d.drop 8 <;> simp [tkG]
    rw [e]
    refine Ev.step (fun n m => f72_L0.eq_2 _ _ _ _ _ _ _ _) ?_
    simp only [real_b, real_i, real_c, chk_t, bnd_some, bnd_up, iff_t, iff_f, gd_t, gd_f, wd_b, wd_u, pick_t, pick_f, b_lss, b_leq, b_gtr, b_geq, b_eql, b_neq, b_seql, b_sneq, b_add, b_sub, u_not, nilC_ptr, fAddr_ptr, Nat.zero_add, extr0, extr1, extr2, lenStr, decide_true, decide_false, bt_tt, bt_tf, bt_ft, bt_ff, bt_bne, Bool.not_true, Bool.not_false, Int.reduceBEq, Int.reduceBNe, extr30, extr31, show (((8 : Nat) : Int) == 8) = true from rfl]
    exact Ev.pure _
  | succ k ih =>
    intro s n hs hl hn
    have h8 : ((s : Int) == 8) = false := by simp; omega
    have h8' : ¬ s = 8 := by omega
    rcases Nat.lt_or_ge s d.length with hlt | hge
    · obtain ⟨c, hc, hdr⟩ := drop_at hlt
      obtain ⟨p, p1, p2⟩ := h.at1 (B_at hc)
      have hc256 := hd c (mem_at hc)
      have hne : ((s : Int) == (d.length : Int)) = false := by simp; omega
      have hm : IntKind.i64.wrap (7 * (s : Int)) = ((7 * s : Nat) : Int) := by rw [wrap_i64 (by omega) (by omega)]; omega
      have h2 : (2 : Nat) ^ (7 * s) ≤ 2 ^ 49 := Nat.pow_le_pow_right (by decide) (by omega)
      have h3 : c % 128 * 2 ^ (7 * s) ≤ 127 * 2 ^ 49 := Nat.mul_le_mul (by omega) h2
      have hn2 : n < 2 ^ (7 * s) := by rw [← pow128]; exact hn
      rw [hdr, tkG]
      rw [pow128, if_neg h8']
      refine Ev.step (fun n m => f72_L0.eq_2 _ _ _ _ _ _ _ _) ?_
      by_cases hc1 : c < 128
      · simp only [real_b, real_i, real_c, chk_t, bnd_some, bnd_up, iff_t, iff_f, gd_t, gd_f, wd_b, wd_u, pick_t, pick_f, b_lss, b_leq, b_gtr, b_geq, b_eql, b_neq, b_seql, b_sneq, b_add, b_sub, u_not, nilC_ptr, fAddr_ptr, Nat.zero_add, extr0, extr1, extr2, lenStr, decide_true, decide_false, bt_tt, bt_tf, bt_ft, bt_ff, bt_bne, Bool.not_true, Bool.not_false, Int.reduceBEq, Int.reduceBNe, extr30, extr31, h8, h.lenS, hne, p1, p2, b_andn hc256, cv_i64 (show c % 128 < 9223372036854775808 by omega), b_mul, hm, b_shl7 (show c % 128 < 128 by omega) (show s < 8 by omega), b_or64 hn2 (show n + c % 128 * 2 ^ (7 * s) < 9223372036854775808 by omega),
          idx_up (show s < 9223372036854775807 by omega), b_and128 hc256, if_pos hc1]
        by_cases h0 : c = 0 ∧ 0 < s
        · have e1 : ((c : Int) == 0) = true := by simp; omega
          have e2 : (((s + 1 : Nat) : Int) > 1) = True := by simp; omega
          rw [if_pos (Or.inl h0)]
          simp only [real_b, real_i, real_c, chk_t, bnd_some, bnd_up, iff_t, iff_f, gd_t, gd_f, wd_b, wd_u, pick_t, pick_f, b_lss, b_leq, b_gtr, b_geq, b_eql, b_neq, b_seql, b_sneq, b_add, b_sub, u_not, nilC_ptr, fAddr_ptr, Nat.zero_add, extr0, extr1, extr2, lenStr, decide_true, decide_false, bt_tt, bt_tf, bt_ft, bt_ff, bt_bne, Bool.not_true, Bool.not_false, Int.reduceBEq, Int.reduceBNe, extr30, extr31, e1, e2]
          exact Ev.pure _
        · by_cases hbig : 9007199254740991 < n + c % 128 * 2 ^ (7 * s)
          · have e3 : (((n + c % 128 * 2 ^ (7 * s) : Nat) : Int) > 9007199254740991) = True := big_t hbig
            rw [if_pos (Or.inr hbig)]
            by_cases e1 : (c : Int) = 0
            · have e2 : (((s + 1 : Nat) : Int) > 1) = False := by simp; omega
              simp only [real_b, real_i, real_c, chk_t, bnd_some, bnd_up, iff_t, iff_f, gd_t, gd_f, wd_b, wd_u, pick_t, pick_f, b_lss, b_leq, b_gtr, b_geq, b_eql, b_neq, b_seql, b_sneq, b_add, b_sub, u_not, nilC_ptr, fAddr_ptr, Nat.zero_add, extr0, extr1, extr2, lenStr, decide_true, decide_false, bt_tt, bt_tf, bt_ft, bt_ff, bt_bne, Bool.not_true, Bool.not_false, Int.reduceBEq, Int.reduceBNe, extr30, extr31, show ((c : Int) == 0) = true by simpa using e1, e2, e3]
              exact Ev.pure _
            · simp only [real_b, real_i, real_c, chk_t, bnd_some, bnd_up, iff_t, iff_f, gd_t, gd_f, wd_b, wd_u, pick_t, pick_f, b_lss, b_leq, b_gtr, b_geq, b_eql, b_neq, b_seql, b_sneq, b_add, b_sub, u_not, nilC_ptr, fAddr_ptr, Nat.zero_add, extr0, extr1, extr2, lenStr, decide_true, decide_false, bt_tt, bt_tf, bt_ft, bt_ff, bt_bne, Bool.not_true, Bool.not_false, Int.reduceBEq, Int.reduceBNe, extr30, extr31, show ((c : Int) == 0) = false by simpa using e1, e3]
              exact Ev.pure _
          · have e3 : (((n + c % 128 * 2 ^ (7 * s) : Nat) : Int) > 9007199254740991) = False := big_f hbig
            rw [if_neg (by rintro (h | h); exact h0 h; exact hbig h)]
            by_cases e1 : (c : Int) = 0
            · have e2 : (((s + 1 : Nat) : Int) > 1) = False := by simp; omega
              simp only [real_b, real_i, real_c, chk_t, bnd_some, bnd_up, iff_t, iff_f, gd_t, gd_f, wd_b, wd_u, pick_t, pick_f, b_lss, b_leq, b_gtr, b_geq, b_eql, b_neq, b_seql, b_sneq, b_add, b_sub, u_not, nilC_ptr, fAddr_ptr, Nat.zero_add, extr0, extr1, extr2, lenStr, decide_true, decide_false, bt_tt, bt_tf, bt_ft, bt_ff, bt_bne, Bool.not_true, Bool.not_false, Int.reduceBEq, Int.reduceBNe, extr30, extr31, show ((c : Int) == 0) = true by simpa using e1, e2, e3]
              exact Ev.pure _
            · simp only [real_b, real_i, real_c, chk_t, bnd_some, bnd_up, iff_t, iff_f, gd_t, gd_f, wd_b, wd_u, pick_t, pick_f, b_lss, b_leq, b_gtr, b_geq, b_eql, b_neq, b_seql, b_sneq, b_add, b_sub, u_not, nilC_ptr, fAddr_ptr, Nat.zero_add, extr0, extr1, extr2, lenStr, decide_true, decide_false, bt_tt, bt_tf, bt_ft, bt_ff, bt_bne, Bool.not_true, Bool.not_false, Int.reduceBEq, Int.reduceBNe, extr30, extr31, show ((c : Int) == 0) = false by simpa using e1, e3]
              exact Ev.pure _
      · simp only [real_b, real_i, real_c, chk_t, bnd_some, bnd_up, iff_t, iff_f, gd_t, gd_f, wd_b, wd_u, pick_t, pick_f, b_lss, b_leq, b_gtr, b_geq, b_eql, b_neq, b_seql, b_sneq, b_add, b_sub, u_not, nilC_ptr, fAddr_ptr, Nat.zero_add, extr0, extr1, extr2, lenStr, decide_true, decide_false, bt_tt, bt_tf, bt_ft, bt_ff, bt_bne, Bool.not_true, Bool.not_false, Int.reduceBEq, Int.reduceBNe, extr30, extr31, h8, h.lenS, hne, p1, p2, b_andn hc256, cv_i64 (show c % 128 < 9223372036854775808 by omega), b_mul, hm, b_shl7 (show c % 128 < 128 by omega) (show s < 8 by omega), b_or64 hn2 (show n + c % 128 * 2 ^ (7 * s) < 9223372036854775808 by omega),
          idx_up (show s < 9223372036854775807 by omega), b_and128 hc256, if_neg hc1]
        refine ih (s + 1) _ (by omega) (by omega) ?_
        rw [pow128, show 7 * (s + 1) = 7 * s + 7 by omega, Nat.pow_add]
        have : c % 128 * 2 ^ (7 * s) ≤ 127 * 2 ^ (7 * s) := Nat.mul_le_mul_right _ (by omega)
        omega
    · have hs' : s = d.length := by omega
      have hdr : d.drop s = [] := List.drop_eq_nil_of_le (by omega)
      have hne : ((s : Int) == (d.length : Int)) = true := by simp; omega
      rw [hdr, tkG, if_neg h8']
      refine Ev.step (fun n m => f72_L0.eq_2 _ _ _ _ _ _ _ _) ?_
      simp only [real_b, real_i, real_c, chk_t, bnd_some, bnd_up, iff_t, iff_f, gd_t, gd_f, wd_b, wd_u, pick_t, pick_f, b_lss, b_leq, b_gtr, b_geq, b_eql, b_neq, b_seql, b_sneq, b_add, b_sub, u_not, nilC_ptr, fAddr_ptr, Nat.zero_add, extr0, extr1, extr2, lenStr, decide_true, decide_false, bt_tt, bt_tf, bt_ft, bt_ff, bt_bne, Bool.not_true, Bool.not_false, Int.reduceBEq, Int.reduceBNe, extr30, extr31, h8, h.lenS, hne]
      exact Ev.pure _
def tk (d : List Nat) : Nat × Nat × Int := tkG d 0 0
theorem take_ok {R : Nat → Prop} {H : Heap} {v : Value} {d : List Nat} (h : Sl R H 1 v d.length (B d)) (hd : ∀ x ∈ d, x < 256) : Cl 72 [v] H (.tuple #[.int .i64 ((tk d).1 : Int), .int .i64 ((tk d).2.1 : Int), .int .i64 (tk d).2.2]) H := by
  refine Ev.enter (fun n => f72_eq rfl n _ _) ?_
  exact (take_loop h hd 8 0 0 (by omega) (by omega) (by decide)).loop
end Go.Eng
