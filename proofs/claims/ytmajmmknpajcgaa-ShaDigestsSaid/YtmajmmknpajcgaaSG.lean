/- The program's roots. -/
import Derived.Test.YtmajmmknpajcgaaSF
set_option linter.unusedVariables false
set_option linter.unusedSimpArgs false
set_option linter.unusedSectionVars false
set_option maxRecDepth 100000
namespace Go.Eng
open Go Go.Proofs

/-- Bit by bit: the greatest number whose power is at most N. -/
def grd (N p : Nat) : Nat → Nat → Nat
  | 0, x => x
  | k + 1, x => if (x + 2 ^ k) ^ p ≤ N then grd N p k (x + 2 ^ k) else grd N p k x
/-- The 32 bits behind the point. -/
def rootW (p n : Nat) : UInt32 := UInt32.ofNat (grd (n * 2 ^ (32 * p)) p 39 0)
def rootN (p n : Int) : Value × Value := if (p = 2 ∨ p = 3) ∧ 1 ≤ n ∧ n ≤ 1000 then (iv (rootW p.toNat n.toNat), .int .i64 0) else (.int .u32 0, .int .i64 2)

theorem cube_parts (y : Nat) (M : Nat) (hM : M = 18446744073709551616) (hy : y < M) : y ^ 3 = (y * y / M * y / M + (y * y / M * y % M + y * y % M * y / M) / M) * (M * M) + (y * y / M * y % M + y * y % M * y / M) % M * M + y * y % M * y % M := by
  have e1 : y * y = M * (y * y / M) + y * y % M := (Nat.div_add_mod _ _).symm
  generalize y * y / M = hi at *
  generalize y * y % M = lo at *
  have e2 : hi * y = M * (hi * y / M) + hi * y % M := (Nat.div_add_mod _ _).symm
  have e3 : lo * y = M * (lo * y / M) + lo * y % M := (Nat.div_add_mod _ _).symm
  generalize hi * y / M = top at *
  generalize hi * y % M = mid at *
  generalize lo * y / M = ov at *
  generalize lo * y % M = low at *
  have e4 : mid + ov = M * ((mid + ov) / M) + (mid + ov) % M := (Nat.div_add_mod _ _).symm
  generalize (mid + ov) / M = c at *
  generalize (mid + ov) % M = r at *
  have : y ^ 3 = y * y * y := by grind
  rw [this, e1]
  have : (M * hi + lo) * y = M * (hi * y) + lo * y := by grind
  rw [this, e2, e3]
  have : M * (M * top + mid) + (M * ov + low) = M * M * top + M * (mid + ov) + low := by grind
  rw [this, e4]
  grind
theorem least_pair {a b n M : Nat} (hb : b < M) : (a * M + b ≤ n * M) ↔ (a < n ∨ a = n ∧ b = 0) := by
  constructor
  · intro h
    rcases Nat.lt_trichotomy a n with h1 | h1 | h1
    · exact .inl h1
    · subst h1; exact .inr ⟨rfl, by omega⟩
    · have : (n + 1) * M ≤ a * M := Nat.mul_le_mul_right _ h1
      have e : (n + 1) * M = n * M + M := by grind
      omega
  · rintro (h | ⟨rfl, rfl⟩)
    · have : (a + 1) * M ≤ n * M := Nat.mul_le_mul_right _ h
      have e : (a + 1) * M = a * M + M := by grind
      omega
    · omega
section
variable {y n : Nat} {H : Heap}
theorem most2_ok (hy : y < 18446744073709551616) (hn : n ≤ 1000) : Cl 29 [.int .u64 (y : Int), .int .i64 2, .int .i64 (n : Int)] H (.bool (decide (y ^ 2 ≤ n * 2 ^ (32 * 2)))) H := by
  refine Ev.enter (fun n => f29_eq rfl n _ _ _ _) ?_
  have hp : decide (y ^ 2 ≤ n * 2 ^ (32 * 2)) = decide (y * y / 18446744073709551616 < n ∨ y * y / 18446744073709551616 = n ∧ y * y % 18446744073709551616 = 0) := by
    have e : y ^ 2 = y * y / 18446744073709551616 * 18446744073709551616 + y * y % 18446744073709551616 := by
      rw [Nat.pow_two]; exact (Nat.div_add_mod' _ _).symm
    rw [show 2 ^ (32 * 2) = 18446744073709551616 from rfl, e]
    simp only [least_pair (Nat.mod_lt (y * y) (show 0 < 18446744073709551616 by omega))]
  rw [hp]
  simp only [f29, ruA, ruB, ruC, ruE, ruD, lenStr, Int.reduceBEq, Int.reduceBNe]
  refine Ev.callC (mul_cl hy hy) ?_
  have hcv : ∀ {k : IntKind} {H : Heap}, cvI .u64 (.int k (n : Int)) H = some (.int .u64 (n : Int), H) := cv_u64 (by omega)
  have hz : ∀ a : Nat, ((a : Int) == 0) = decide (a = 0) := fun a => n_eq (b := 0)
  by_cases h1 : y * y / 18446744073709551616 < n
  · simp only [ruA, ruB, ruC, ruE, ruD, lenStr, Int.reduceBEq, Int.reduceBNe, hcv, n_lt, n_eq, h1, decide_true, true_or]
    exact Ev.pure _
  · by_cases h2 : y * y / 18446744073709551616 = n
    · by_cases h3 : y * y % 18446744073709551616 = 0
      · simp only [ruA, ruB, ruC, ruE, ruD, lenStr, Int.reduceBEq, Int.reduceBNe, hcv, n_lt, n_eq, hz, h1, h2, h3, decide_true, decide_false, Nat.lt_irrefl, false_or, and_self]
        exact Ev.pure _
      · simp only [ruA, ruB, ruC, ruE, ruD, lenStr, Int.reduceBEq, Int.reduceBNe, hcv, n_lt, n_eq, hz, h1, h2, h3, decide_true, decide_false, Nat.lt_irrefl, false_or, and_false]
        exact Ev.pure _
    · simp only [ruA, ruB, ruC, ruE, ruD, lenStr, Int.reduceBEq, Int.reduceBNe, hcv, n_lt, n_eq, hz, h1, h2, decide_true, decide_false, false_or, false_and]
      exact Ev.pure _
theorem most3_ok (hy : y < 18446744073709551616) (hn : n ≤ 1000) : Cl 29 [.int .u64 (y : Int), .int .i64 3, .int .i64 (n : Int)] H (.bool (decide (y ^ 3 ≤ n * 2 ^ (32 * 3)))) H := by
  refine Ev.enter (fun n => f29_eq rfl n _ _ _ _) ?_
  have hM : ∀ a : Nat, a % 18446744073709551616 < 18446744073709551616 := fun a => Nat.mod_lt _ (by omega)
  have hD : ∀ {a : Nat}, a < 18446744073709551616 → a * y / 18446744073709551616 < 18446744073709551616 := fun {a} ha => by
    rw [Nat.div_lt_iff_lt_mul (by omega)]
    exact Nat.mul_lt_mul_of_lt_of_lt ha hy
  have hp := cube_parts y 18446744073709551616 rfl hy
  obtain ⟨hi, e1⟩ : ∃ x, y * y / 18446744073709551616 = x := ⟨_, rfl⟩
  obtain ⟨lo, e2⟩ : ∃ x, y * y % 18446744073709551616 = x := ⟨_, rfl⟩
  have hhi : hi < 18446744073709551616 := by rw [← e1]; exact hD hy
  have hlo : lo < 18446744073709551616 := by rw [← e2]; exact hM _
  rw [e1, e2] at hp
  obtain ⟨top, e3⟩ : ∃ x, hi * y / 18446744073709551616 = x := ⟨_, rfl⟩
  obtain ⟨mid, e4⟩ : ∃ x, hi * y % 18446744073709551616 = x := ⟨_, rfl⟩
  obtain ⟨ov, e5⟩ : ∃ x, lo * y / 18446744073709551616 = x := ⟨_, rfl⟩
  obtain ⟨low, e6⟩ : ∃ x, lo * y % 18446744073709551616 = x := ⟨_, rfl⟩
  have htop : top < 18446744073709551615 := by
    rw [← e3, Nat.div_lt_iff_lt_mul (by omega)]
    have : hi ≤ 18446744073709551614 := by
      rw [← e1]
      have := Nat.mul_le_mul (show y ≤ 18446744073709551615 by omega) (show y ≤ 18446744073709551615 by omega)
      omega
    have := Nat.mul_le_mul this (show y ≤ 18446744073709551615 by omega)
    omega
  have hmid : mid < 18446744073709551616 := by rw [← e4]; exact hM _
  have hov : ov < 18446744073709551616 := by rw [← e5]; exact hD hlo
  have hlow : low < 18446744073709551616 := by rw [← e6]; exact hM _
  rw [e3, e4, e5, e6] at hp
  obtain ⟨c, e7⟩ : ∃ x, (mid + ov) / 18446744073709551616 = x := ⟨_, rfl⟩
  obtain ⟨r, e8⟩ : ∃ x, (mid + ov) % 18446744073709551616 = x := ⟨_, rfl⟩
  rw [e7, e8] at hp
  have hc : c ≤ 1 := by rw [← e7]; omega
  have hr : r < 18446744073709551616 := by rw [← e8]; exact hM _
  have hq : decide (y ^ 3 ≤ n * 2 ^ (32 * 3)) = decide (top + c = 0 ∧ (r < n * 4294967296 ∨ r = n * 4294967296 ∧ low = 0)) := by
    rw [hp, show 2 ^ (32 * 3) = 4294967296 * 18446744073709551616 from rfl]
    apply decide_eq_decide.2
    by_cases h0 : top + c = 0
    · rw [h0, Nat.zero_mul, Nat.zero_add, ← Nat.mul_assoc, least_pair hlow]
      simp
    · have h1 : 1 * (18446744073709551616 * 18446744073709551616) ≤ (top + c) * (18446744073709551616 * 18446744073709551616) := Nat.mul_le_mul_right _ (by omega)
      simp only [h0, false_and, iff_false]
      omega
  rw [hq]
  have hcv : ∀ {k : IntKind} {H : Heap}, cvI .u64 (.int k (n : Int)) H = some (.int .u64 (n : Int), H) := cv_u64 (by omega)
  have hz : ∀ a : Nat, ((a : Int) == 0) = decide (a = 0) := fun a => n_eq (b := 0)
  have hsh : binB Try.prog .shl 49 (.int .u64 (n : Int)) (.int .u64 32) = some (.int .u64 ((n * 4294967296 : Nat) : Int)) := u64_shl (k := 32) (by omega) (by omega)
  have hadd : ((top : Int) + (c : Int)) = ((top + c : Nat) : Int) := by omega
  simp only [f29, ruA, ruB, ruC, ruE, ruD, lenStr, Int.reduceBEq, Int.reduceBNe]
  refine Ev.callC (mul_cl hy hy) ?_
  simp only [ruA, ruB, ruC, ruE, ruD, lenStr, Int.reduceBEq, Int.reduceBNe, e1, e2]
  refine Ev.callC (mul_cl hhi hy) ?_
  simp only [ruA, ruB, ruC, ruE, ruD, lenStr, Int.reduceBEq, Int.reduceBNe, e3, e4]
  refine Ev.callC (mul_cl hlo hy) ?_
  simp only [ruA, ruB, ruC, ruE, ruD, lenStr, Int.reduceBEq, Int.reduceBNe, e5, e6]
  refine Ev.callC add64_cl ?_
  simp only [ruA, ruB, ruC, ruE, ruD, lenStr, Int.reduceBEq, Int.reduceBNe, e7, e8, hadd, wrap_u64 (show top + c < 18446744073709551616 by omega), hcv, hsh, hz, n_lt, n_eq]
  by_cases h0 : top + c = 0
  · by_cases h1 : r < n * 4294967296
    · simp only [ruA, ruB, ruC, ruE, ruD, lenStr, Int.reduceBEq, Int.reduceBNe, n_lt, n_eq, hz, h0, h1, decide_true, true_or, and_self]
      exact Ev.pure _
    · by_cases h2 : r = n * 4294967296
      · by_cases h3 : low = 0
        · simp only [ruA, ruB, ruC, ruE, ruD, lenStr, Int.reduceBEq, Int.reduceBNe, n_lt, n_eq, hz, h0, h1, h2, h3, Nat.lt_irrefl, decide_true, decide_false, false_or, and_self]
          exact Ev.pure _
        · simp only [ruA, ruB, ruC, ruE, ruD, lenStr, Int.reduceBEq, Int.reduceBNe, n_lt, n_eq, hz, h0, h1, h2, h3, Nat.lt_irrefl, decide_true, decide_false, false_or, and_self, and_false]
          exact Ev.pure _
      · simp only [ruA, ruB, ruC, ruE, ruD, lenStr, Int.reduceBEq, Int.reduceBNe, n_lt, n_eq, hz, h0, h1, h2, decide_true, decide_false, false_or, and_self, and_false, false_and]
        exact Ev.pure _
  · simp only [ruA, ruB, ruC, ruE, ruD, lenStr, Int.reduceBEq, Int.reduceBNe, n_lt, n_eq, hz, h0, decide_true, decide_false, false_and]
    exact Ev.pure _
end
theorem most_ok {y n p : Nat} {H : Heap} (hp : p = 2 ∨ p = 3) (hy : y < 18446744073709551616) (hn : n ≤ 1000) : Cl 29 [.int .u64 (y : Int), .int .i64 (p : Int), .int .i64 (n : Int)] H (.bool (decide (y ^ p ≤ n * 2 ^ (32 * p)))) H := by
  rcases hp with rfl | rfl
  · exact most2_ok hy hn
  · exact most3_ok hy hn
theorem or_bit {x k : Nat} (h : 2 ^ (k + 1) ∣ x) : x ||| 2 ^ k = x + 2 ^ k := by
  obtain ⟨a, rfl⟩ := h
  exact (Nat.two_pow_add_eq_or_of_lt (Nat.pow_lt_pow_right (by omega) (by omega)) a).symm
theorem cv_iv {a : Nat} {k : IntKind} {H : Heap} : cvI .u32 (.int k (a : Int)) H = some (iv (UInt32.ofNat a), H) := by
  simp only [cvI, iv, IntKind.wrap_u32]
  congr 3
theorem root_loop {n p : Nat} (hp : p = 2 ∨ p = 3) (hn : n ≤ 1000) {H : Heap} : ∀ (k x : Nat), k ≤ 39 → 2 ^ k ∣ x → x < 549755813888 →
    Ev (fun m j => f11_L0 real (AC m) m j (.int .i64 (p : Int)) (.int .i64 (n : Int)) (.int .u64 (x : Int)) (.int .i64 ((k : Int) - 1)) H) (.tuple #[iv (UInt32.ofNat (grd (n * 2 ^ (32 * p)) p k x)), .int .i64 0], H) := by
  intro k
  induction k with
  | zero =>
    intro x _ _ hx
    refine Ev.step (fun n m => f11_L0.eq_2 _ _ _ _ _ _ _ _ _) ?_
    have e : ((((0 : Nat) : Int) - 1) ≥ 0) = False := by simp
    simp only [ruA, ruB, ruC, ruE, ruD, lenStr, Int.reduceBEq, Int.reduceBNe, e, cv_iv, grd]
    exact Ev.pure _
  | succ k ih =>
    intro x hk hd hx
    refine Ev.step (fun n m => f11_L0.eq_2 _ _ _ _ _ _ _ _ _) ?_
    have e : (((k + 1 : Nat) : Int) - 1) = (k : Int) := by omega
    have e1 : ((k : Int) ≥ 0) = True := by simp
    have h2k : 2 ^ k < 549755813888 := by
      have : 2 ^ k ≤ 2 ^ 38 := Nat.pow_le_pow_right (by omega) (by omega)
      omega
    have hsh : binB Try.prog .shl 49 (.int .u64 1) (.int .i64 (k : Int)) = some (.int .u64 ((2 ^ k : Nat) : Int)) := by
      have := u64_shl (P := Try.prog) (t := 49) (a := 1) (k := k) (kk := .i64) (by omega) (by omega)
      simpa using this
    have hor : binB Try.prog .or 49 (.int .u64 (x : Int)) (.int .u64 ((2 ^ k : Nat) : Int)) = some (.int .u64 ((x + 2 ^ k : Nat) : Int)) := by
      rw [u64_or (by omega) (by omega), or_bit hd]
    have hd' : 2 ^ k ∣ x := Nat.dvd_trans (Nat.pow_dvd_pow 2 (by omega)) hd
    have hdx : 2 ^ k ∣ x + 2 ^ k := Nat.dvd_add hd' (Nat.dvd_refl _)
    have hx2 : x + 2 ^ k < 549755813888 := by
      obtain ⟨a, rfl⟩ := hd
      have hb : 549755813888 = 2 ^ (k + 1) * 2 ^ (38 - k) := by rw [← Nat.pow_add, show k + 1 + (38 - k) = 39 by omega]
      rw [hb] at hx ⊢
      have ha : a < 2 ^ (38 - k) := Nat.lt_of_mul_lt_mul_left hx
      have h3 : 2 ^ (k + 1) * (a + 1) ≤ 2 ^ (k + 1) * 2 ^ (38 - k) := Nat.mul_le_mul_left _ ha
      have h4 : 2 ^ (k + 1) * (a + 1) = 2 ^ (k + 1) * a + 2 ^ (k + 1) := by rw [Nat.mul_add, Nat.mul_one]
      have h5 : 2 ^ (k + 1) = 2 * 2 ^ k := by rw [Nat.pow_succ]; omega
      have h6 := Nat.two_pow_pos k
      omega
    have hsub : IntKind.i64.wrap ((k : Int) - 1) = (k : Int) - 1 := wrap_i64 (by omega) (by omega)
    simp only [e, ruA, ruB, ruC, ruE, ruD, lenStr, Int.reduceBEq, Int.reduceBNe, e1, hsh, hor]
    refine Ev.callC (most_ok hp (by omega) hn) ?_
    by_cases hc : (x + 2 ^ k) ^ p ≤ n * 2 ^ (32 * p)
    · simp only [grd, if_pos hc, hc, ruA, ruB, ruC, ruE, ruD, lenStr, Int.reduceBEq, Int.reduceBNe, f11_J1, hsub]
      exact ih (x + 2 ^ k) (by omega) hdx hx2
    · simp only [grd, if_neg hc, hc, ruA, ruB, ruC, ruE, ruD, lenStr, Int.reduceBEq, Int.reduceBNe, f11_J1, hsub]
      exact ih x (by omega) hd' hx
theorem root_ok (p n : Int) (H : Heap) : Cl 11 [.int .i64 p, .int .i64 n] H (.tuple #[(rootN p n).1, (rootN p n).2]) H := by
  refine Ev.enter (fun n => f11_eq rfl n _ _ _) ?_
  have i2 : ∀ a b : Int, (a != b) = !decide (a = b) := fun a b => by
    by_cases h : a = b <;> simp [h]
  have h32 : ((3 : Int) = 2) = False := by simp
  by_cases hp : p = 2 ∨ p = 3
  · by_cases h1 : n < 1
    · have hr : rootN p n = (.int .u32 0, .int .i64 2) := by unfold rootN; rw [if_neg (by omega)]
      rw [hr]
      rcases hp with rfl | rfl
      · simp only [f11, ruA, ruB, ruC, ruE, ruD, lenStr, Int.reduceBEq, Int.reduceBNe, i2, h32, h1, decide_true]
        exact Ev.pure _
      · simp only [f11, ruA, ruB, ruC, ruE, ruD, lenStr, Int.reduceBEq, Int.reduceBNe, i2, h32, h1, decide_true]
        exact Ev.pure _
    · by_cases h2 : n > 1000
      · have hr : rootN p n = (.int .u32 0, .int .i64 2) := by unfold rootN; rw [if_neg (by omega)]
        rw [hr]
        rcases hp with rfl | rfl
        · simp only [f11, ruA, ruB, ruC, ruE, ruD, lenStr, Int.reduceBEq, Int.reduceBNe, i2, h32, h1, h2, decide_true, decide_false]
          exact Ev.pure _
        · simp only [f11, ruA, ruB, ruC, ruE, ruD, lenStr, Int.reduceBEq, Int.reduceBNe, i2, h32, h1, h2, decide_true, decide_false]
          exact Ev.pure _
      · have hr : rootN p n = (iv (rootW p.toNat n.toNat), .int .i64 0) := by unfold rootN; rw [if_pos (by omega)]
        rw [hr]
        obtain ⟨a, rfl⟩ := Int.eq_ofNat_of_zero_le (show 0 ≤ n by omega)
        rcases hp with rfl | rfl
        · simp only [f11, ruA, ruB, ruC, ruE, ruD, lenStr, Int.reduceBEq, Int.reduceBNe, i2, h32, h1, h2, decide_true, decide_false]
          exact Ev.loop (root_loop (n := a) (p := 2) (.inl rfl) (by omega) 39 0 (Nat.le_refl _) (Nat.dvd_zero _) (by omega))
        · simp only [f11, ruA, ruB, ruC, ruE, ruD, lenStr, Int.reduceBEq, Int.reduceBNe, i2, h32, h1, h2, decide_true, decide_false]
          exact Ev.loop (root_loop (n := a) (p := 3) (.inr rfl) (by omega) 39 0 (Nat.le_refl _) (Nat.dvd_zero _) (by omega))
  · have hr : rootN p n = (.int .u32 0, .int .i64 2) := by unfold rootN; rw [if_neg (fun h => hp h.1)]
    rw [hr]
    have h2 : ¬ p = 2 := fun h => hp (.inl h)
    have h3 : ¬ p = 3 := fun h => hp (.inr h)
    simp only [f11, ruA, ruB, ruC, ruE, ruD, lenStr, Int.reduceBEq, Int.reduceBNe, i2, h32, h2, h3, decide_true, decide_false]
    exact Ev.pure _
end Go.Eng
