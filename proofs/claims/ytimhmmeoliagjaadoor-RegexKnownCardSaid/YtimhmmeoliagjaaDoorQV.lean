import Derived.Test.YtimhmmeoliagjaaDoorQP
import Derived.Lib.TrailingZeros
namespace Go.Eng

def bitsF : Nat → Nat → Nat → List Nat
  | 0, _, _ => []
  | n + 1, o, w => if w % 2 = 1 then o :: bitsF n (o + 1) (w / 2) else bitsF n (o + 1) (w / 2)
theorem bitsF_zero : ∀ n o, bitsF n o 0 = []
  | 0, _ => rfl
  | n + 1, o => by simp [bitsF, bitsF_zero n]
theorem bitsF_eq : ∀ (n o w : Nat), bitsF n o w = ((List.range n).filter w.testBit).map (o + ·)
  | 0, _, _ => rfl
  | n + 1, o, w => by
    rw [bitsF, bitsF_eq n, List.range_succ_eq_map, List.filter_cons]
    have h0 : w.testBit 0 = decide (w % 2 = 1) := Nat.testBit_zero w
    have h1 : (List.range n |>.map Nat.succ).filter w.testBit = ((List.range n).filter (w / 2).testBit).map Nat.succ := by
      rw [List.filter_map]
      congr 1
      apply List.filter_congr
      intro x _
      simp [Nat.testBit_succ]
    have h2 : (((List.range n).filter (w / 2).testBit).map Nat.succ).map (o + ·) = ((List.range n).filter (w / 2).testBit).map (o + 1 + ·) := by
      rw [List.map_map]
      apply List.map_congr_left
      intro x _
      simp; omega
    by_cases h : w % 2 = 1
    · rw [if_pos h, h0, h1, if_pos (by simpa using h), List.map_cons, h2]; simp
    · rw [if_neg h, h0, h1, if_neg (by simpa using h), h2]
theorem bitsF_pow : ∀ (k n o x : Nat), k ≤ n → bitsF n o (2 ^ k * x) = bitsF (n - k) (o + k) x
  | 0, n, o, x, _ => by simp
  | k + 1, n, o, x, h => by
    obtain ⟨n, rfl⟩ : ∃ m, n = m + 1 := ⟨n - 1, by omega⟩
    have e : 2 ^ (k + 1) * x = 2 * (2 ^ k * x) := by rw [Nat.pow_succ]; ac_rfl
    rw [bitsF, e, if_neg (by omega), show 2 * (2 ^ k * x) / 2 = 2 ^ k * x by omega, bitsF_pow k n (o + 1) x (by omega)]
    congr 1 <;> omega
theorem and_pred (k m : Nat) : 2 ^ k * (2 * m + 1) &&& (2 ^ k * (2 * m + 1) - 1) = 2 ^ k * (2 * m) := by
  have hp : 0 < 2 ^ k := Nat.two_pow_pos k
  have e : 2 ^ k * (2 * m + 1) - 1 = 2 ^ k * (2 * m) + (2 ^ k - 1) := by rw [Nat.mul_add]; omega
  rw [e]
  apply Nat.eq_of_testBit_eq
  intro j
  rw [Nat.testBit_and, Nat.testBit_two_pow_mul_add _ (by omega), Nat.testBit_two_pow_mul, Nat.testBit_two_pow_mul]
  by_cases hj : j < k
  · have : ¬ k ≤ j := by omega
    simp [this]
  · simp only [hj, if_false]
    have hk : k ≤ j := by omega
    simp only [hk, decide_true, Bool.true_and]
    cases hd : j - k with
    | zero => simp [Nat.testBit_zero]
    | succ d => rw [Nat.testBit_succ, Nat.testBit_succ]; simp [show (2 * m + 1) / 2 = m by omega, show 2 * m / 2 = m by omega]
theorem ctz_pos {n w : Nat} (h0 : 0 < w) : Lib.ctz n w = Lib.ctzFrom n w := by simp [Lib.ctz]; omega
theorem bitsF_low {n w : Nat} (o : Nat) (h0 : 0 < w) (h : w < 2 ^ n) : bitsF n o w = (o + Lib.ctz n w) :: bitsF n o (w &&& (w - 1)) := by
  obtain ⟨m, hm, hk⟩ := Lib.ctzFrom_spec n w h0 h
  rw [ctz_pos h0]
  generalize Lib.ctzFrom n w = k at hm hk
  subst hm
  rw [and_pred, bitsF_pow k n o _ (by omega), bitsF_pow k n o _ (by omega)]
  obtain ⟨d, hd⟩ : ∃ d, n - k = d + 1 := ⟨n - k - 1, by omega⟩
  rw [hd, bitsF, bitsF, if_pos (by omega), if_neg (by omega), show (2 * m + 1) / 2 = m by omega, show 2 * m / 2 = m by omega]
theorem ctz_lt {n w : Nat} (h0 : 0 < w) (h : w < 2 ^ n) : Lib.ctz n w < n := by
  obtain ⟨m, hm, hk⟩ := Lib.ctzFrom_spec n w h0 h
  rw [ctz_pos h0]; exact hk
theorem bitsF_len : ∀ (n o w : Nat), (bitsF n o w).length ≤ n
  | 0, _, _ => by simp [bitsF]
  | n + 1, o, w => by
    have := bitsF_len n (o + 1) (w / 2)
    rw [bitsF]; split <;> simp <;> omega
def setL (s : Nat) : List Nat := bitsF 64 0 (wrd s 0) ++ (bitsF 64 64 (wrd s 1) ++ (bitsF 64 128 (wrd s 2) ++ bitsF 64 192 (wrd s 3)))
theorem bits_part (s i : Nat) : bitsF 64 (64 * i) (wrd s i) = (List.range' (64 * i) 64).filter s.testBit := by
  rw [bitsF_eq, List.range'_eq_map_range, List.filter_map]
  congr 1
  apply List.filter_congr
  intro x hx
  rw [List.mem_range] at hx
  rw [wrd_bit]
  simp [hx, Function.comp]
theorem setL_eq (s : Nat) : setL s = (List.range 256).filter s.testBit := by
  have h : List.range (64 + (64 + (64 + 64))) = List.range' (64 * 0) 64 ++ (List.range' (64 * 1) 64 ++ (List.range' (64 * 2) 64 ++ List.range' (64 * 3) 64)) := by
    rw [List.range_eq_range', ← List.range'_append_1, ← List.range'_append_1, ← List.range'_append_1]
  rw [show 256 = 64 + (64 + (64 + 64)) from rfl, h, List.filter_append, List.filter_append, List.filter_append, ← bits_part, ← bits_part, ← bits_part, ← bits_part]
  rfl
theorem setL_mem {s c : Nat} : c ∈ setL s ↔ c < 256 ∧ s.testBit c = true := by
  rw [setL_eq, List.mem_filter, List.mem_range]
theorem setL_len (s : Nat) : (setL s).length ≤ 256 := by
  rw [setL_eq]
  exact Nat.le_trans (List.length_filter_le _ _) (by simp)
end Go.Eng
