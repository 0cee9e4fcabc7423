/- Numbers as bytes: the two functions. -/
import Derived.Test.YtjnpiaigiljpjaaKB
import Derived.Test.YtjnpiaigiljpjaaEngAA
set_option linter.unusedVariables false
set_option linter.unusedSimpArgs false
namespace Go.Eng
open Go Go.Proofs

/-- What is told of two calls ahead: the closed example, strings.Repeat. -/
abbrev EE : Ext := orE (once 18 (.bool true)) (repE 28)
/-- A call of the program comes to v and H'. -/
def Cl (f : FuncId) (args : List Value) (H : Heap) (v : Value) (H' : Heap) : Prop := Ev (fun n _ => acall Try.prog false EE n f args H) (v, H')
noncomputable abbrev AC (n : Nat) : CallF := acall Try.prog false EE n

theorem num_ok {x : Nat} (hx : x ≤ 9007199254740991) (H : Heap) : ∃ v H' k, Cl 48 [.int .i64 (x : Int)] H (.tuple #[v, .int .i64 0]) H' ∧ Acc (all H) H' 1 v k (B (vnum x)) ∧ Keep (all H) H H' := by
  obtain ⟨v, H', k, h1, h2, h3⟩ := num_loop (C := AC) (all H) x 0 H (.slice none 0 0) [] Acc.nil (Rb.all H) (by have := vnum_len9 (x := x) (by omega); unfold mostBytes; omega) (by omega)
  refine ⟨v, H', k, ?_, h2, h3⟩
  refine Ev.enter (fun n => f48_eq rfl n _ _) ?_
  have d1 : ¬ (x : Int) < 0 := by omega
  have d2 : ¬ (x : Int) > 9007199254740991 := by omega
  simp only [f48, real_b, real_i, b_lss, b_gtr, bnd_up, bnd_some, wd_b, d1, d2, decide_false, BEq.rfl, gd_t, pick_f, iff_f]
  exact h1.loop
theorem num_bad {x : Int} (hx : x < 0 ∨ 9007199254740991 < x) (H : Heap) : Cl 48 [.int .i64 x] H (.tuple #[.slice none 0 0, .int .i64 2]) H := by
  refine Ev.enter (fun n => f48_eq rfl n _ _) ?_
  by_cases d1 : x < 0
  · simp only [f48, real_b, real_i, b_lss, b_gtr, bnd_up, bnd_some, wd_b, d1, decide_true, gd_f, pick_t, iff_t, show (true == false) = false from rfl]
    exact Ev.pure _
  · have d2 : x > 9007199254740991 := by omega
    simp only [f48, real_b, real_i, b_lss, b_gtr, bnd_up, bnd_some, wd_b, d1, d2, decide_false, decide_true, BEq.rfl, gd_t, pick_f, iff_t]
    exact Ev.pure _

theorem rnum_loop (R : Nat → Prop) : ∀ (k x n d : Nat) (H : Heap) (v : Value) (l : List Nat), Acc R H 1 v n (B (l ++ [d])) → d < 128 → Rb R H → x < 128 ^ k → n + k ≤ mostBytes → x < 9223372036854775808 →
    ∃ v' H' k, Ev (fun n m => f47_L0 real (AC n) n m (.int .i64 (x : Int)) v H) (.tuple #[v', .int .i64 0], H') ∧ Acc R H' 1 v' k (B (l ++ if x = 0 then [d] else (d + 128) :: vnum x)) ∧ Keep R H H' := by
  intro k
  induction k with
  | zero =>
    intro x n d H v l hA hd hN hk hb hx
    obtain rfl : x = 0 := by simpa using hk
    refine ⟨v, H, n, ?_, by simpa using hA, Keep.refl _ _⟩
    refine Ev.step (fun n m => f47_L0.eq_2 _ _ _ _ _ _ _) ?_
    have hd : ¬ ((0 : Nat) : Int) > 0 := by omega
    simp only [real_b, real_i, b_gtr, bnd_up, hd, decide_false, iff_f]
    exact Ev.pure _
  | succ k ih =>
    intro x n d H v l hA hd hN hk hb hx
    have hmb : mostBytes = 140737488355328 := rfl
    by_cases h0 : x = 0
    · subst h0
      refine ⟨v, H, n, ?_, by simpa using hA, Keep.refl _ _⟩
      refine Ev.step (fun n m => f47_L0.eq_2 _ _ _ _ _ _ _) ?_
      have hd : ¬ ((0 : Nat) : Int) > 0 := by omega
      simp only [real_b, real_i, b_gtr, bnd_up, hd, decide_false, iff_f]
      exact Ev.pure _
    · have hlen : n = l.length + 1 := by have := hA.len; simpa [B] using this.symm
      have hat : (B (l ++ [d]))[n - 1]? = some (.int .u8 (d : Int)) := by simp [B, hlen]
      obtain ⟨p, p1, p2⟩ := hA.at1 hat
      obtain ⟨H1, s1, s2, s3, s4⟩ := hA.set1 (y := .int .u8 ((d + 128 : Nat) : Int)) (show n - 1 < n by omega) p1 rfl rfl
      have hset : (B (l ++ [d])).set (n - 1) (.int .u8 ((d + 128 : Nat) : Int)) = B (l ++ [d + 128]) := by simp [B, hlen]
      rw [hset] at s2
      obtain ⟨v', H', h1, h2, h3⟩ := byte_app (x := x % 128) s2 (hN.mono (by omega)) (by omega)
      obtain ⟨v2, H2, k, g1, g2, g3⟩ := ih (x / 128) (n + 1) (x % 128) H' v' (l ++ [d + 128]) h2 (by omega) (hN.mono (by have := h3.1; omega)) (by rw [Nat.pow_succ] at hk; omega) (by omega) (by omega)
      refine ⟨v2, H2, k, ?_, ?_, s3.trans (h3.trans g3)⟩
      · refine Ev.step (fun n m => f47_L0.eq_2 _ _ _ _ _ _ _) ?_
        have hd' : (x : Int) > 0 := by omega
        have e1 : IntKind.i64.wrap ((n : Int) - 1) = ((n - 1 : Nat) : Int) := by rw [wrap_i64 (by omega) (by omega)]; omega
        have e2 : IntKind.u8.wrap ((d : Int) + 128) = ((d + 128 : Nat) : Int) := by rw [wrap_u8 (by omega) (by omega)]; omega
        have e3 : (x : Int).tmod 128 = ((x % 128 : Nat) : Int) := by rw [Int.tmod_eq_emod_of_nonneg (by omega)]; omega
        have e4 : (((x % 128 : Nat) : Int)) % 256 = ((x % 128 : Nat) : Int) := by omega
        have e5 : IntKind.i64.wrap ((x : Int).tdiv 128) = ((x / 128 : Nat) : Int) := by
          rw [Int.tdiv_eq_ediv_of_nonneg (by omega), wrap_i64 (by omega) (by omega)]; omega
        simp only [real_b, real_i, b_gtr, bnd_up, hd', decide_true, iff_t, hA.sl.lenS, b_sub, e1, p1, p2, bnd_some, b_add, e2, s1, b_rem (show (128 : Int) ≠ 0 by decide), e3, cvI_u8, e4]
        rw [bld1 rfl rfl]
        simp only [bnd_some, h1, b_quo (show (128 : Int) ≠ 0 by decide), bnd_up, e5]
        exact g1
      · rw [if_neg h0]
        have : vnum x = if x / 128 = 0 then [x % 128] else (x % 128 + 128) :: vnum (x / 128) := by
          conv => lhs; unfold vnum
          by_cases hl : x < 128
          · rw [if_pos hl, if_pos (by omega), Nat.mod_eq_of_lt hl]
          · rw [if_neg hl, if_neg (by omega)]
        rw [this]
        simpa using g2
theorem vnum_eq (x : Nat) : vnum x = if x / 128 = 0 then [x % 128] else (x % 128 + 128) :: vnum (x / 128) := by
  conv => lhs; unfold vnum
  by_cases hl : x < 128
  · rw [if_pos hl, if_pos (by omega), Nat.mod_eq_of_lt hl]
  · rw [if_neg hl, if_neg (by omega)]
theorem rnum_ok {x : Nat} (hx : x ≤ 9007199254740991) (H : Heap) : ∃ v H' k, Cl 47 [.int .i64 (x : Int)] H (.tuple #[v, .int .i64 0]) H' ∧ Acc (all H) H' 1 v k (B (vnum x)) ∧ Keep (all H) H H' := by
  have hA : Acc (all H) (H.push ⟨[.int .u8 ((x % 128 : Nat) : Int)], 1, true⟩) 1 (.slice (some ⟨H.n, 0, none⟩) 1 1) 1 (B ([] ++ [x % 128])) := .inr ⟨H.n, rfl, Nat.lt_irrefl _, by simp [Heap.push], by simp [Heap.push, B], rfl⟩
  have h9 : x / 128 < 128 ^ 9 := by
    have : (128 : Nat) ^ 9 = 9223372036854775808 := by decide
    omega
  obtain ⟨v, H', k, h1, h2, h3⟩ := rnum_loop (all H) 9 (x / 128) 1 (x % 128) _ _ [] hA (by omega) ((Rb.all H).mono (by simp [Heap.push])) h9 (by unfold mostBytes; omega) (by omega)
  refine ⟨v, H', k, ?_, by rw [vnum_eq]; simpa using h2, (Keep.push (Rb.all H)).trans h3⟩
  refine Ev.enter (fun n => f47_eq rfl n _ _) ?_
  have d1 : ¬ (x : Int) < 0 := by omega
  have d2 : ¬ (x : Int) > 9007199254740991 := by omega
  have e3 : (x : Int).tmod 128 = ((x % 128 : Nat) : Int) := by rw [Int.tmod_eq_emod_of_nonneg (by omega)]; omega
  have e4 : (((x % 128 : Nat) : Int)) % 256 = ((x % 128 : Nat) : Int) := by omega
  have e5 : IntKind.i64.wrap ((x : Int).tdiv 128) = ((x / 128 : Nat) : Int) := by
    rw [Int.tdiv_eq_ediv_of_nonneg (by omega), wrap_i64 (by omega) (by omega)]; omega
  simp only [f47, real_b, real_i, b_lss, b_gtr, bnd_up, bnd_some, wd_b, d1, d2, decide_false, BEq.rfl, gd_t, pick_f, iff_f, b_rem (show (128 : Int) ≠ 0 by decide), e3, cvI_u8, e4]
  rw [bld1 rfl rfl]
  simp only [bnd_some, b_quo (show (128 : Int) ≠ 0 by decide), bnd_up, e5]
  exact h1.loop
theorem rnum_bad {x : Int} (hx : x < 0 ∨ 9007199254740991 < x) (H : Heap) : Cl 47 [.int .i64 x] H (.tuple #[.slice none 0 0, .int .i64 2]) H := by
  refine Ev.enter (fun n => f47_eq rfl n _ _) ?_
  by_cases d1 : x < 0
  · simp only [f47, real_b, real_i, b_lss, b_gtr, bnd_up, bnd_some, wd_b, d1, decide_true, gd_f, pick_t, iff_t, show (true == false) = false from rfl]
    exact Ev.pure _
  · have d2 : x > 9007199254740991 := by omega
    simp only [f47, real_b, real_i, b_lss, b_gtr, bnd_up, bnd_some, wd_b, d1, d2, decide_false, decide_true, BEq.rfl, gd_t, pick_f, iff_t]
    exact Ev.pure _
end Go.Eng
