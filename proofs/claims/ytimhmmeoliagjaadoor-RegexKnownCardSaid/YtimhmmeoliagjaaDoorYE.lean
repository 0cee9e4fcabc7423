import Derived.Test.YtimhmmeoliagjaaDoorQV
namespace Go.Eng

def pc8 (b : Nat) : Nat := b % 2 + b / 2 % 2 + b / 4 % 2 + b / 8 % 2 + b / 16 % 2 + b / 32 % 2 + b / 64 % 2 + b / 128 % 2
def mk (d : Nat) : Nat → Nat
  | 0 => 0
  | n + 1 => 256 * mk d n + d
def oc1 (n x : Nat) : Nat := (x / 2 &&& mk 85 n) + (x &&& mk 85 n)
def oc2 (n x : Nat) : Nat := (x / 4 &&& mk 51 n) + (x &&& mk 51 n)
def oc3 (n x : Nat) : Nat := (x / 16 + x) &&& mk 15 n
theorem and_split (x y : Nat) : x &&& y = 256 * (x / 256 &&& y / 256) + (x % 256 &&& y % 256) := by
  have h1 : (x &&& y) / 256 = x / 256 &&& y / 256 := Nat.and_div_two_pow (n := 8)
  have h2 : (x &&& y) % 256 = x % 256 &&& y % 256 := Nat.and_mod_two_pow (n := 8)
  rw [← h1, ← h2]; omega
theorem mk_div {d : Nat} (hd : d < 256) (n : Nat) : mk d (n + 1) / 256 = mk d n := by rw [mk]; omega
theorem mk_mod {d : Nat} (hd : d < 256) (n : Nat) : mk d (n + 1) % 256 = d := by rw [mk]; omega
theorem fin512 {p : Nat → Bool} (h : (List.range 1024).all p = true) {c : Nat} (hc : c < 1024) : p c = true := List.all_eq_true.1 h c (List.mem_range.2 hc)
def p1 (b : Nat) : Nat := (b / 2 &&& 85) + (b &&& 85)
def p2 (b : Nat) : Nat := (b / 4 &&& 51) + (b &&& 51)
def p3 (b : Nat) : Nat := (b / 16 + b) &&& 15
theorem oc1_rec (n x : Nat) : oc1 (n + 1) x = 256 * oc1 n (x / 256) + p1 (x % 256) := by
  unfold oc1 p1
  rw [and_split (x / 2), and_split x, mk_div (by decide), mk_mod (by decide)]
  have h : (x / 2 % 256 &&& 85) = (x % 256 / 2 &&& 85) := by
    have := fin512 (p := fun y => (y / 2 % 256 &&& 85) == (y % 256 / 2 &&& 85)) (by decide +kernel) (c := x % 1024) (by omega)
    have := eq_of_beq this
    rw [show x % 1024 / 2 % 256 = x / 2 % 256 by omega, show x % 1024 % 256 / 2 = x % 256 / 2 by omega] at this
    exact this
  rw [h, show x / 2 / 256 = x / 256 / 2 by omega]
  omega
theorem oc2_rec (n x : Nat) : oc2 (n + 1) x = 256 * oc2 n (x / 256) + p2 (x % 256) := by
  unfold oc2 p2
  rw [and_split (x / 4), and_split x, mk_div (by decide), mk_mod (by decide)]
  have h : (x / 4 % 256 &&& 51) = (x % 256 / 4 &&& 51) := by
    have := fin512 (p := fun y => (y / 4 % 256 &&& 51) == (y % 256 / 4 &&& 51)) (by decide +kernel) (c := x % 1024) (by omega)
    have := eq_of_beq this
    rw [show x % 1024 / 4 % 256 = x / 4 % 256 by omega, show x % 1024 % 256 / 4 = x % 256 / 4 by omega] at this
    exact this
  rw [h, show x / 4 / 256 = x / 256 / 4 by omega]
  omega
def lowB : Nat → Nat → Prop
  | 0, x => x = 0
  | n + 1, x => x % 16 ≤ 4 ∧ x % 256 / 16 ≤ 4 ∧ lowB n (x / 256)
theorem lowB_16 : ∀ {n x : Nat}, lowB n x → x % 16 ≤ 4
  | 0, x, h => by rw [show x = 0 from h]; decide
  | n + 1, x, h => h.1
theorem oc3_rec {n x : Nat} (h : lowB (n + 1) x) : oc3 (n + 1) x = 256 * oc3 n (x / 256) + p3 (x % 256) := by
  have h16 := lowB_16 h.2.2
  obtain ⟨h1, h2, h3⟩ := h
  unfold oc3 p3
  rw [and_split, mk_div (by decide), mk_mod (by decide)]
  have e1 : (x / 16 + x) / 256 = x / 256 / 16 + x / 256 := by omega
  have e2 : (x / 16 + x) % 256 = 16 * (x / 256 % 16) + (x % 256 / 16 + x % 256) := by omega
  rw [e1, e2]
  congr 1
  have a : ∀ y, y &&& 15 = y % 16 := fun y => Nat.and_two_pow_sub_one_eq_mod y 4
  rw [a, a]; omega
theorem p_low {b : Nat} (h : b < 256) : (p2 (p1 b)) % 16 ≤ 4 ∧ p2 (p1 b) / 16 ≤ 4 ∧ p1 b < 256 ∧ p2 (p1 b) < 256 ∧ p3 (p2 (p1 b)) = pc8 b := by
  have := List.all_eq_true.1 (show (List.range 256).all (fun b => decide ((p2 (p1 b)) % 16 ≤ 4 ∧ p2 (p1 b) / 16 ≤ 4 ∧ p1 b < 256 ∧ p2 (p1 b) < 256 ∧ p3 (p2 (p1 b)) = pc8 b)) = true by decide +kernel) b (List.mem_range.2 h)
  exact of_decide_eq_true this
def sumB : Nat → Nat → Nat
  | 0, _ => 0
  | n + 1, x => 256 * sumB n (x / 256) + pc8 (x % 256)
theorem oc12_rec (n x : Nat) : oc2 (n + 1) (oc1 (n + 1) x) = 256 * oc2 n (oc1 n (x / 256)) + p2 (p1 (x % 256)) := by
  have := p_low (b := x % 256) (by omega)
  rw [oc2_rec, oc1_rec, show (256 * oc1 n (x / 256) + p1 (x % 256)) / 256 = oc1 n (x / 256) by omega, show (256 * oc1 n (x / 256) + p1 (x % 256)) % 256 = p1 (x % 256) by omega]
theorem oc12_low : ∀ n x, lowB n (oc2 n (oc1 n x))
  | 0, x => by simp [lowB, oc2, oc1, mk]
  | n + 1, x => by
    have := p_low (b := x % 256) (by omega)
    have ih := oc12_low n (x / 256)
    rw [oc12_rec]
    refine ⟨by omega, by omega, ?_⟩
    rwa [show (256 * oc2 n (oc1 n (x / 256)) + p2 (p1 (x % 256))) / 256 = oc2 n (oc1 n (x / 256)) by omega]
theorem oc123 : ∀ n x, oc3 n (oc2 n (oc1 n x)) = sumB n x
  | 0, x => by simp [sumB, oc3, mk]
  | n + 1, x => by
    have := p_low (b := x % 256) (by omega)
    rw [oc3_rec (oc12_low _ _), oc12_rec, show (256 * oc2 n (oc1 n (x / 256)) + p2 (p1 (x % 256))) / 256 = oc2 n (oc1 n (x / 256)) by omega,
      show (256 * oc2 n (oc1 n (x / 256)) + p2 (p1 (x % 256))) % 256 = p2 (p1 (x % 256)) by omega, oc123 n, sumB, this.2.2.2.2]
theorem pc8_le (b : Nat) : pc8 b ≤ 8 := by unfold pc8; omega
def fold8 (y : Nat) : Nat := (y + y / 256 + (y + y / 256) / 65536 + (y + y / 256 + (y + y / 256) / 65536) / 4294967296) % 128
def pcs : Nat → Nat → Nat
  | 0, _ => 0
  | n + 1, x => pc8 (x % 256) + pcs n (x / 256)
theorem fold_lin {a b c d e f g h y1 y2 y3 y4 y5 y6 : Nat} (ha : a ≤ 8) (hb : b ≤ 8) (hc : c ≤ 8) (hd : d ≤ 8) (he : e ≤ 8) (hf : f ≤ 8) (hg : g ≤ 8) (hh : h ≤ 8)
    (q6 : y6 = 256 * h + g) (q5 : y5 = 256 * y6 + f) (q4 : y4 = 256 * y5 + e) (q3 : y3 = 256 * y4 + d) (q2 : y2 = 256 * y3 + c) (q1 : y1 = 256 * y2 + b) :
    fold8 (256 * y1 + a) = a + b + c + d + e + f + g + h := by
  have e1 : (256 * y1 + a) / 256 = y1 := by omega
  have e2 : (256 * y1 + a + y1) / 65536 = y2 + y3 := by omega
  have e3 : (256 * y1 + a + y1 + (y2 + y3)) / 4294967296 = y4 + y5 + y6 + h := by omega
  unfold fold8
  rw [e1, e2, e3]
  omega
theorem fold_ok (x : Nat) : fold8 (sumB 8 x) = pcs 8 x ∧ sumB 8 x ≤ 8 * 72340172838076673 := by
  have h0 := pc8_le (x % 256)
  have h1 := pc8_le (x / 256 % 256)
  have h2 := pc8_le (x / 256 / 256 % 256)
  have h3 := pc8_le (x / 256 / 256 / 256 % 256)
  have h4 := pc8_le (x / 256 / 256 / 256 / 256 % 256)
  have h5 := pc8_le (x / 256 / 256 / 256 / 256 / 256 % 256)
  have h6 := pc8_le (x / 256 / 256 / 256 / 256 / 256 / 256 % 256)
  have h7 := pc8_le (x / 256 / 256 / 256 / 256 / 256 / 256 / 256 % 256)
  constructor
  · have := fold_lin h0 h1 h2 h3 h4 h5 h6 h7 rfl rfl rfl rfl rfl rfl
    simp only [sumB, pcs, Nat.mul_zero, Nat.zero_add]
    rw [this]
    omega
  · simp only [sumB]
    omega
theorem bits8 (n o x : Nat) : (bitsF (n + 8) o x).length = pc8 (x % 256) + (bitsF n (o + 8) (x / 256)).length := by
  have one : ∀ (n o x : Nat), (bitsF (n + 1) o x).length = x % 2 + (bitsF n (o + 1) (x / 2)).length := fun n o x => by
    rw [bitsF]; split <;> simp <;> omega
  rw [show n + 8 = n + 1 + 1 + 1 + 1 + 1 + 1 + 1 + 1 by omega, one, one, one, one, one, one, one, one]
  simp only [Nat.div_div_eq_div_mul, pc8]
  rw [show o + 1 + 1 + 1 + 1 + 1 + 1 + 1 + 1 = o + 8 by omega]
  simp only [show 2 * 2 = 4 by rfl, show 4 * 2 = 8 by rfl, show 8 * 2 = 16 by rfl, show 16 * 2 = 32 by rfl, show 32 * 2 = 64 by rfl, show 64 * 2 = 128 by rfl, show 128 * 2 = 256 by rfl]
  omega
theorem bits_pcs : ∀ (n o x : Nat), (bitsF (8 * n) o x).length = pcs n x
  | 0, _, _ => rfl
  | n + 1, o, x => by rw [show 8 * (n + 1) = 8 * n + 8 by omega, bits8, bits_pcs n, pcs]
def ones (x : Nat) : Nat := fold8 (oc3 8 (oc2 8 (oc1 8 x)))
theorem ones_ok (o x : Nat) : ones x = (bitsF 64 o x).length := by
  unfold ones
  rw [oc123, (fold_ok x).1, show 64 = 8 * 8 from rfl, bits_pcs]
theorem ones_small (x : Nat) : oc3 8 (oc2 8 (oc1 8 x)) ≤ 8 * 72340172838076673 := by rw [oc123]; exact (fold_ok x).2
end Go.Eng
