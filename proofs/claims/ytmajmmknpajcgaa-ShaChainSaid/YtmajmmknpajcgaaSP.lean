/- Roots of squares and of cubes; Bring. -/
import Derived.Test.YtmajmmknpajcgaaSO
set_option linter.unusedVariables false
set_option linter.unusedSimpArgs false
set_option linter.unusedSectionVars false
set_option maxRecDepth 100000
namespace Go.Eng
open Go Go.Proofs

theorem bring_ok {n : Nat} (h0 : 0 < n) (hn : n ≤ 1000000000000) (i : Int) (H : Heap) : ∃ r : Nat, r < n ∧ Cl 21 [.int .i64 i, .int .i64 (n : Int)] H (.int .i64 (r : Int)) H := by
  have e0 : ((n : Int) ≤ 0) = False := by simp; omega
  have hr : binB Try.prog .rem 3 (.int .i64 i) (.int .i64 (n : Int)) = some (.int .i64 (i.tmod n)) := b_rem (by omega)
  have hl : -(n : Int) < i.tmod n := by
    have := Int.tmod_lt_of_pos (-i) (show 0 < (n : Int) by omega)
    rw [Int.neg_tmod] at this
    omega
  have hu : i.tmod n < (n : Int) := Int.tmod_lt_of_pos i (by omega)
  by_cases h : i.tmod n < 0
  · refine ⟨(i.tmod n + n).toNat, by omega, Ev.enter (fun n => f21_eq rfl n _ _ _) ?_⟩
    simp only [f21, ruA, ruB, ruC, ruE, ruD, lenStr, Int.reduceBEq, Int.reduceBNe, e0, hr, h, decide_true, wrap_i64 (show -9223372036854775808 ≤ i.tmod n + n by omega) (by omega)]
    rw [show (((i.tmod n + n).toNat : Nat) : Int) = i.tmod n + n by omega]
    exact Ev.pure _
  · refine ⟨(i.tmod n).toNat, by omega, Ev.enter (fun n => f21_eq rfl n _ _ _) ?_⟩
    simp only [f21, ruA, ruB, ruC, ruE, ruD, lenStr, Int.reduceBEq, Int.reduceBNe, e0, hr, h, decide_false]
    rw [show (((i.tmod n).toNat : Nat) : Int) = i.tmod n by omega]
    exact Ev.pure _
/-- The roots of so many numbers from m on rise, beyond last. -/
def rises : Nat → UInt32 → Nat → Bool
  | 0, _, _ => true
  | c + 1, last, m => !decide ((rootW 2 m).toNat ≤ last.toNat) && rises c (rootW 2 m) (m + 1)
def sqAll : Bool := (List.range 30).all fun r => rises (min ((r + 2) * (r + 2)) 1001 - ((r + 1) * (r + 1) + 1)) 0 ((r + 1) * (r + 1) + 1) && (rootW 2 ((r + 1) * (r + 1)) == 0) && (decide (10 < r + 1) || (rootW 3 ((r + 1) * (r + 1) * (r + 1)) == 0))
theorem sqAll_true : sqAll = true := by kernel_rfl
theorem sq_facts {r : Nat} (h : r < 30) : rises (min ((r + 2) * (r + 2)) 1001 - ((r + 1) * (r + 1) + 1)) 0 ((r + 1) * (r + 1) + 1) = true ∧ rootW 2 ((r + 1) * (r + 1)) = 0 ∧ (r + 1 ≤ 10 → rootW 3 ((r + 1) * (r + 1) * (r + 1)) = 0) := by
  have := List.all_eq_true.1 sqAll_true r (List.mem_range.2 h)
  simp only [Bool.and_eq_true, Bool.or_eq_true, decide_eq_true_eq, beq_iff_eq] at this
  exact ⟨this.1.1, this.1.2, fun h => this.2.resolve_left (by omega)⟩
theorem w_leq {P : Program} {t : TypeId} {x y : UInt32} : binB P .leq t (iv x) (iv y) = some (.bool (decide (x.toNat ≤ y.toNat))) := by
  unfold iv
  rw [b_leq]
  congr 2
  simp
theorem sq_loop {k : Nat} (hk : k ≤ 30) : ∀ (c m : Nat) (last : UInt32) (H : Heap), m + c = max m (min ((k + 1) * (k + 1)) 1001) → 1 ≤ m → rises c last m = true →
    ∃ H', Ev (fun n j => f8_L0 real (AC n) n j (.int .i64 (k : Int)) (iv last) (.int .i64 (m : Int)) H) (.bool true, H') := by
  have hkk : (k + 1) * (k + 1) ≤ 961 := Nat.mul_le_mul (show k + 1 ≤ 31 by omega) (show k + 1 ≤ 31 by omega)
  have e1 : IntKind.i64.wrap ((k : Int) + 1) = ((k + 1 : Nat) : Int) := idx_up (by omega)
  have e2 : binB Try.prog .mul 3 (.int .i64 ((k + 1 : Nat) : Int)) (.int .i64 ((k + 1 : Nat) : Int)) = some (.int .i64 (((k + 1) * (k + 1) : Nat) : Int)) := by
    rw [b_mul, ← Int.natCast_mul, wrap_i64 (by omega) (by omega)]
  intro c
  induction c with
  | zero =>
    intro m last H hm h1 _
    obtain ⟨H', ha, _⟩ := awake_ok H
    refine ⟨H', Ev.step (fun n m => f8_L0.eq_2 _ _ _ _ _ _ _ m) ?_⟩
    by_cases hc : m < (k + 1) * (k + 1)
    · have hc' : ((m : Int) < (((k + 1) * (k + 1) : Nat) : Int)) = True := by simp only [eq_iff_iff, iff_true]; omega
      have h3 : ((m : Int) ≤ 1000) = False := by simp only [eq_iff_iff, iff_false]; omega
      simp only [ruA, ruB, ruC, ruE, ruD, lenStr, Int.reduceBEq, Int.reduceBNe, e1, e2, hc', h3]
      refine Ev.callC ha ?_
      exact Ev.pure _
    · have hc' : ((m : Int) < (((k + 1) * (k + 1) : Nat) : Int)) = False := by simp only [eq_iff_iff, iff_false]; omega
      simp only [ruA, ruB, ruC, ruE, ruD, lenStr, Int.reduceBEq, Int.reduceBNe, e1, e2, hc']
      refine Ev.callC ha ?_
      exact Ev.pure _
  | succ c ih =>
    intro m last H hm h1 hr
    simp only [rises, Bool.and_eq_true, Bool.not_eq_true'] at hr
    have hm2 : m < (k + 1) * (k + 1) ∧ m ≤ 1000 := by omega
    obtain ⟨H', hx⟩ := ih (m + 1) (rootW 2 m) H (by omega) (by omega) hr.2
    refine ⟨H', Ev.step (fun n m => f8_L0.eq_2 _ _ _ _ _ _ _ m) ?_⟩
    have hc' : ((m : Int) < (((k + 1) * (k + 1) : Nat) : Int)) = True := by simp only [eq_iff_iff, iff_true]; omega
    have h3 : ((m : Int) ≤ 1000) = True := by simp only [eq_iff_iff, iff_true]; omega
    have hro := root_ok 2 (m : Int) H
    have e : rootN 2 (m : Int) = (iv (rootW 2 m), .int .i64 0) := by unfold rootN; rw [if_pos (by omega)]; simp
    rw [e] at hro
    simp only [ruA, ruB, ruC, ruE, ruD, lenStr, Int.reduceBEq, Int.reduceBNe, e1, e2, hc', h3]
    refine Ev.callC hro ?_
    simp only [ruA, ruB, ruC, ruE, ruD, lenStr, Int.reduceBEq, Int.reduceBNe, w_leq, hr.1, idx_up (show m < 9223372036854775807 by omega)]
    exact hx
theorem squares_law (n : Int) (H : Heap) : ∃ H', Cl 8 [.int .i64 n] H (.bool true) H' := by
  obtain ⟨r, hr, hb⟩ := bring_ok (n := 30) (by omega) (by omega) n H
  obtain ⟨f1, f2, f3⟩ := sq_facts hr
  have hkk : (r + 1) * (r + 1) ≤ 900 := Nat.mul_le_mul (show r + 1 ≤ 30 by omega) (show r + 1 ≤ 30 by omega)
  have hk3 : 1 ≤ (r + 1) * (r + 1) := Nat.mul_pos (by omega) (by omega)
  have hmono : (r + 1) * (r + 1) + 1 ≤ (r + 2) * (r + 2) := by
    have : (r + 2) * (r + 2) = (r + 1) * (r + 1) + 2 * r + 3 := by grind
    omega
  obtain ⟨H', hx⟩ := sq_loop (k := r + 1) (by omega) _ ((r + 1) * (r + 1) + 1) 0 H (by show _ + (min ((r + 2) * (r + 2)) 1001 - ((r + 1) * (r + 1) + 1)) = max _ (min ((r + 2) * (r + 2)) 1001); omega) (by omega) f1
  refine ⟨H', Ev.enter (fun n => f8_eq rfl n _ _) ?_⟩
  have e0 : IntKind.i64.wrap (1 + (r : Int)) = ((r + 1 : Nat) : Int) := by rw [wrap_i64 (by omega) (by omega)]; omega
  have e2 : binB Try.prog .mul 3 (.int .i64 ((r + 1 : Nat) : Int)) (.int .i64 ((r + 1 : Nat) : Int)) = some (.int .i64 (((r + 1) * (r + 1) : Nat) : Int)) := by
    rw [b_mul, ← Int.natCast_mul, wrap_i64 (by omega) (by omega)]
  have e4 : IntKind.i64.wrap ((((r + 1) * (r + 1) : Nat) : Int) + 1) = (((r + 1) * (r + 1) + 1 : Nat) : Int) := idx_up (by omega)
  have q2 := rootB_ok (p := 2) (n := (r + 1) * (r + 1)) (.inl rfl) (by omega) (by omega) 0 H
  rw [f2] at q2
  have z : ((0 : UInt32) == 0) = true := by rfl
  simp only [f8, ruA, ruB, ruC, ruE, ruD, lenStr, Int.reduceBEq, Int.reduceBNe]
  refine Ev.callC hb ?_
  simp only [ruA, ruB, ruC, ruE, ruD, lenStr, Int.reduceBEq, Int.reduceBNe, e0, e2]
  refine Ev.callC q2 ?_
  by_cases h10 : r + 1 ≤ 10
  · have hc : ((((r + 1 : Nat) : Int)) ≤ 10) = True := by simp only [eq_iff_iff, iff_true]; omega
    have hle3 : (r + 1) * (r + 1) * (r + 1) ≤ 1000 := Nat.mul_le_mul (Nat.mul_le_mul (show r + 1 ≤ 10 by omega) (show r + 1 ≤ 10 by omega)) h10
    have hp3 : 1 ≤ (r + 1) * (r + 1) * (r + 1) := Nat.mul_pos hk3 (by omega)
    have q3 := rootB_ok (p := 3) (n := (r + 1) * (r + 1) * (r + 1)) (.inr rfl) hp3 hle3 0 H
    rw [f3 h10] at q3
    have e3 : binB Try.prog .mul 3 (.int .i64 (((r + 1) * (r + 1) : Nat) : Int)) (.int .i64 ((r + 1 : Nat) : Int)) = some (.int .i64 (((r + 1) * (r + 1) * (r + 1) : Nat) : Int)) := by
      rw [b_mul, ← Int.natCast_mul, wrap_i64 (by omega) (by omega)]
    simp only [ruA, ruB, ruC, ruE, ruD, lenStr, Int.reduceBEq, Int.reduceBNe, z, hc, e2, e3]
    refine Ev.callC q3 ?_
    simp only [ruA, ruB, ruC, ruE, ruD, lenStr, Int.reduceBEq, Int.reduceBNe, z, e2, e4]
    exact Ev.loop hx
  · have hc : ((((r + 1 : Nat) : Int)) ≤ 10) = False := by simp only [eq_iff_iff, iff_false]; omega
    simp only [ruA, ruB, ruC, ruE, ruD, lenStr, Int.reduceBEq, Int.reduceBNe, z, hc, e2, e4]
    exact Ev.loop hx
end Go.Eng
