/- The reference's words and roots. -/
import Derived.Test.YtmajmmknpajcgaaSZ
set_option linter.unusedVariables false
set_option linter.unusedSimpArgs false
set_option linter.unusedSectionVars false
set_option maxRecDepth 100000
namespace Go.Eng
open Go Go.Proofs

theorem rturn_ok {x : UInt32} {n : Nat} {H : Heap} (h0 : 0 < n) (hn : n < 32) : Cl 51 [iv x, .int .i64 (n : Int)] H (iv (rotr x n)) H := by
  refine Ev.enter (fun n => f51_eq rfl n _ _ _) ?_
  have e4 : IntKind.i64.wrap (32 - (n : Int)) = ((32 - n : Nat) : Int) := by rw [wrap_i64 (by omega) (by omega)]; omega
  have hc : x >>> UInt32.ofNat n ||| x <<< UInt32.ofNat (32 - n) = rotr x n := by rw [rotr, UInt32.or_comm]
  simp only [f51, ruA, ruC Try.prog 3 .i64, w_shr hn, e4, w_shl (show 32 - n < 32 by omega), w_or, hc]
  exact Ev.pure _
/-! ### four bytes -/
theorem or_ofNat {k a b : Nat} (hb : b < 2 ^ k) (h : 2 ^ k * a + b < 4294967296) : UInt32.ofNat (2 ^ k * a) ||| UInt32.ofNat b = UInt32.ofNat (2 ^ k * a + b) := by
  apply UInt32.toNat_inj.1
  rw [UInt32.toNat_or, UInt32.toNat_ofNat', UInt32.toNat_ofNat', UInt32.toNat_ofNat', Nat.mod_eq_of_lt (show 2 ^ k * a < 2 ^ 32 by omega), Nat.mod_eq_of_lt (show b < 2 ^ 32 by omega), Nat.mod_eq_of_lt (show 2 ^ k * a + b < 2 ^ 32 by omega)]
  exact (Nat.two_pow_add_eq_or_of_lt hb a).symm
theorem shl_ofNat {k a : Nat} (hk : k < 32) (h : 2 ^ k * a < 4294967296) : UInt32.ofNat a <<< UInt32.ofNat k = UInt32.ofNat (2 ^ k * a) := by
  have ha : a < 2 ^ 32 := by
    have := Nat.two_pow_pos k
    have : a ≤ 2 ^ k * a := Nat.le_mul_of_pos_left _ this
    omega
  apply UInt32.toNat_inj.1
  rw [UInt32.toNat_shiftLeft, UInt32.toNat_ofNat', UInt32.toNat_ofNat', UInt32.toNat_ofNat', Nat.mod_eq_of_lt ha, Nat.mod_eq_of_lt (show k < 2 ^ 32 by omega), Nat.mod_eq_of_lt hk, Nat.shiftLeft_eq, Nat.mul_comm]
theorem wd4_val {a b c d : Nat} (ha : a < 256) (hb : b < 256) (hc : c < 256) (hd : d < 256) : wd4 [a, b, c, d] = UInt32.ofNat (((a * 256 + b) * 256 + c) * 256 + d) := by
  have st : ∀ x y : Nat, y < 256 → x < 16777216 → UInt32.ofNat x <<< UInt32.ofNat 8 ||| UInt32.ofNat y = UInt32.ofNat (x * 256 + y) := fun x y hy hx => by
    rw [shl_ofNat (by omega) (by omega), or_ofNat (k := 8) (by omega) (by omega)]
    congr 1
    omega
  have e0 : (0 : UInt32) = UInt32.ofNat 0 := rfl
  simp only [wd4, List.foldl_cons, List.foldl_nil]
  rw [e0, st 0 a ha (by omega), st _ b hb (by omega), st _ c hc (by omega), st _ d hd (by omega)]
  congr 1
  omega
theorem wd4_ref {a b c d : Nat} (ha : a < 256) (hb : b < 256) (hc : c < 256) (hd : d < 256) :
    UInt32.ofNat a <<< UInt32.ofNat 24 ||| UInt32.ofNat b <<< UInt32.ofNat 16 ||| UInt32.ofNat c <<< UInt32.ofNat 8 ||| UInt32.ofNat d = wd4 [a, b, c, d] := by
  rw [wd4_val ha hb hc hd, shl_ofNat (k := 24) (by omega) (by omega), shl_ofNat (k := 16) (by omega) (by omega), shl_ofNat (k := 8) (by omega) (by omega),
    or_ofNat (k := 24) (by omega) (by omega), show 2 ^ 24 * a + 2 ^ 16 * b = 2 ^ 16 * (256 * a + b) by omega, or_ofNat (k := 16) (by omega) (by omega), show 2 ^ 16 * (256 * a + b) + 2 ^ 8 * c = 2 ^ 8 * (65536 * a + 256 * b + c) by omega, or_ofNat (k := 8) (by omega) (by omega)]
  congr 1
  omega
theorem word_app {H0 H : Heap} {n : Nat} {v : Value} {l : List UInt32} {x : UInt32} (hK : Keep (all H0) H0 H) (h : Acc (all H0) H 1 v n (WC l)) (hn : n ≤ 1000000) :
    ∃ v' H', bldS 1 1 [.int .u32 0] [(0, 1, iv x)] H = some (.slice (some ⟨H.n, 0, none⟩) 1 1, H.push ⟨WC [x], 1, true⟩) ∧ Eng.app 1 4 v (.slice (some ⟨H.n, 0, none⟩) 1 1) (H.push ⟨WC [x], 1, true⟩) = some (v', H') ∧ Acc (all H0) H' 1 v' (n + 1) (WC (l ++ [x])) ∧ Keep (all H0) H0 H' := by
  have hRb : Rb (all H0) H := (Rb.all H0).mono hK.1
  have hadd : addend 1 (.slice (some ⟨H.n, 0, none⟩) 1 1) (H.push ⟨WC [x], 1, true⟩) = some (1, WC [x]) := addend_push rfl
  have hmb : mostBytes = 140737488355328 := rfl
  obtain ⟨v', H', a1, a2, a3⟩ := (h.push (blk := ⟨WC [x], 1, true⟩)).app (by_ := 4) (hRb.mono (by simp [push_n])) hadd rfl (by omega)
  refine ⟨v', H', by rw [bld1 rfl rfl]; rfl, a1, ?_, (hK.trans (Keep.push hRb)).trans a3⟩
  rw [show WC (l ++ [x]) = WC l ++ WC [x] by simp [WC]]
  exact a2
theorem accw_at {H0 H : Heap} {n : Nat} {v : Value} {l : List UInt32} (h : Acc (all H0) H 1 v n (WC l)) {i : Nat} (hi : i < l.length) : ∃ p, iAddrS 1 v (.int .i64 (i : Int)) = some p ∧ ldC p H = some (iv (l.getD i 0), H) := by
  have hx : l[i]? = some (l.getD i 0) := by rw [List.getD_eq_getElem?_getD, List.getElem?_eq_getElem hi]; rfl
  obtain ⟨p, p1, p2⟩ := h.at1 (WC_at hx)
  exact ⟨p, p1, p2⟩
section
variable {H0 : Heap}
theorem rwords_rest : ∀ (k : Nat) (l : List UInt32) (v : Value) (H : Heap), l.length + k = 64 → 16 ≤ l.length → Keep (all H0) H0 H → Acc (all H0) H 1 v l.length (WC l) →
    ∃ v' H', Ev (fun n m => f37_L1 real (AC n) n m v (.int .i64 (l.length : Int)) H) (v', H') ∧ Keep (all H0) H0 H' ∧ Acc (all H0) H' 1 v' 64 (WC (ext k l)) := by
  intro k
  induction k with
  | zero =>
    intro l v H hl h16 hK hA
    have hl64 : l.length = 64 := by omega
    rw [hl64] at hA
    refine ⟨v, H, Ev.step (fun n m => f37_L1.eq_2 _ _ _ _ _ _ m) ?_, hK, hA⟩
    have e1 : ((l.length : Int) < 64) = False := eq_false (by omega)
    simp only [ruA, ruB, ruC, ruE, ruD, lenStr, Int.reduceBEq, Int.reduceBNe, e1]
    exact Ev.pure _
  | succ k ih =>
    intro l v H hl h16 hK hA
    obtain ⟨v1, H1, b1, b2, b3, b4⟩ := word_app (x := nxt l) hK hA (by omega)
    obtain ⟨v2, H2, c1, c2, c3⟩ := ih (l ++ [nxt l]) v1 H1 (by simp; omega) (by simp; omega) b4 (by simpa using b3)
    refine ⟨v2, H2, Ev.step (fun n m => f37_L1.eq_2 _ _ _ _ _ _ m) ?_, c2, c3⟩
    have e1 : ((l.length : Int) < 64) = True := eq_true (by omega)
    have sub : ∀ c : Nat, c ≤ 16 → IntKind.i64.wrap ((l.length : Int) - (c : Int)) = ((l.length - c : Nat) : Int) := fun c hc => by rw [wrap_i64 (by omega) (by omega)]; omega
    have s15 := sub 15 (by omega)
    have s2 := sub 2 (by omega)
    have s16 := sub 16 (by omega)
    have s7 := sub 7 (by omega)
    simp only [Int.cast_ofNat_Int] at s15 s2 s16 s7
    obtain ⟨p15, x1, y1⟩ := accw_at hA (i := l.length - 15) (by omega)
    obtain ⟨p2, x2, y2⟩ := accw_at hA (i := l.length - 2) (by omega)
    obtain ⟨p16, x3, y3⟩ := accw_at hA (i := l.length - 16) (by omega)
    obtain ⟨p7, x4, y4⟩ := accw_at hA (i := l.length - 7) (by omega)
    have h3 : ∀ x : UInt32, binB Try.prog .shr 22 (iv x) (.int .u64 3) = some (iv (x >>> UInt32.ofNat 3)) := fun x => w_shr (k := 3) (by omega)
    have h10 : ∀ x : UInt32, binB Try.prog .shr 22 (iv x) (.int .u64 10) = some (iv (x >>> UInt32.ofNat 10)) := fun x => w_shr (k := 10) (by omega)
    simp only [ruA, ruB, ruC, ruE, ruD, lenStr, Int.reduceBEq, Int.reduceBNe, e1, s15, s2, x1, y1, x2, y2]
    refine Ev.callC (rturn_ok (n := 7) (by omega) (by omega)) ?_
    refine Ev.callC (rturn_ok (n := 18) (by omega) (by omega)) ?_
    simp only [ruA, ruB, ruC, ruE, ruD, lenStr, Int.reduceBEq, Int.reduceBNe, w_xor, h3]
    refine Ev.callC (rturn_ok (n := 17) (by omega) (by omega)) ?_
    refine Ev.callC (rturn_ok (n := 19) (by omega) (by omega)) ?_
    have hb : bldS 1 1 [.int .u32 0] [(0, 1, iv (l.getD (l.length - 16) 0 + (rotr (l.getD (l.length - 15) 0) 7 ^^^ rotr (l.getD (l.length - 15) 0) 18 ^^^ l.getD (l.length - 15) 0 >>> UInt32.ofNat 3) + l.getD (l.length - 7) 0 + (rotr (l.getD (l.length - 2) 0) 17 ^^^ rotr (l.getD (l.length - 2) 0) 19 ^^^ l.getD (l.length - 2) 0 >>> UInt32.ofNat 10)))] H = some (.slice (some ⟨H.n, 0, none⟩) 1 1, H.push ⟨WC [nxt l], 1, true⟩) := b1
    simp only [ruA, ruB, ruC, ruE, ruD, lenStr, Int.reduceBEq, Int.reduceBNe, w_xor, h10, s16, x3, y3, w_add, s7, x4, y4, hb, b2, idx_up (show l.length < 9223372036854775807 by omega)]
    have e : (l ++ [nxt l]).length = l.length + 1 := by simp
    rw [e] at c1
    exact c1
variable {d : List Nat} {vb : Value} (hd : d.length = 64) (hb : ∀ c ∈ d, c < 256) (hs : Sl (all H0) H0 1 vb d.length (B d))
include hd hb hs
theorem rwords_first : ∀ (k i : Nat) (v : Value) (H : Heap), i + k = 16 → Keep (all H0) H0 H → Acc (all H0) H 1 v i (WC (words16 d i)) →
    ∃ v' H', Ev (fun n m => f37_L0 real (AC n) n m vb v (.int .i64 (i : Int)) H) (v', H') ∧ Keep (all H0) H0 H' ∧ Acc (all H0) H' 1 v' 64 (WC (sched d)) := by
  intro k
  induction k with
  | zero =>
    intro i v H hi hK hA
    obtain rfl : i = 16 := by omega
    have hl : (words16 d 16).length = 16 := words16_len d 16
    obtain ⟨v', H', c1, c2, c3⟩ := rwords_rest 48 (words16 d 16) v H (by omega) (by omega) hK (by rw [hl]; exact hA)
    rw [hl] at c1
    refine ⟨v', H', Ev.step (fun n m => f37_L0.eq_2 _ _ _ _ _ _ _ m) ?_, c2, c3⟩
    have e1 : (((16 : Nat) : Int) < 16) = False := by simp
    simp only [ruA, ruB, ruC, ruE, ruD, lenStr, Int.reduceBEq, Int.reduceBNe, e1]
    exact Ev.loop c1
  | succ k ih =>
    intro i v H hi hK hA
    have hg : ∀ j, j < 4 → ∃ c, d[4 * i + j]? = some c ∧ c < 256 := fun j hj => by
      obtain ⟨c, hc, _⟩ := drop_at (l := d) (i := 4 * i + j) (by omega)
      exact ⟨c, hc, hb c (List.mem_of_getElem? hc)⟩
    obtain ⟨c0, g0, l0⟩ := hg 0 (by omega)
    obtain ⟨c1, g1, l1⟩ := hg 1 (by omega)
    obtain ⟨c2, g2, l2⟩ := hg 2 (by omega)
    obtain ⟨c3, g3, l3⟩ := hg 3 (by omega)
    rw [Nat.add_zero] at g0
    have hw : (d.drop (4 * i)).take 4 = [c0, c1, c2, c3] := by
      apply List.ext_getElem?
      intro j
      rw [List.getElem?_take, List.getElem?_drop]
      by_cases hj : j < 4
      · rw [if_pos hj]
        have : j = 0 ∨ j = 1 ∨ j = 2 ∨ j = 3 := by omega
        rcases this with rfl | rfl | rfl | rfl
        · exact g0
        · exact g1
        · exact g2
        · exact g3
      · rw [if_neg hj, List.getElem?_eq_none (by simp; omega)]
    have hup : words16 d (i + 1) = words16 d i ++ [wd4 [c0, c1, c2, c3]] := by rw [words16_up, hw]
    obtain ⟨v1, H1, b1, b2, b3, b4⟩ := word_app (x := wd4 [c0, c1, c2, c3]) hK hA (by omega)
    rw [← hup] at b3
    obtain ⟨v2, H2, q1, q2, q3⟩ := ih (i + 1) v1 H1 (by omega) b4 b3
    refine ⟨v2, H2, Ev.step (fun n m => f37_L0.eq_2 _ _ _ _ _ _ _ m) ?_, q2, q3⟩
    have e1 : ((i : Int) < 16) = True := eq_true (by omega)
    have hsH := hs.keep hK
    obtain ⟨p0, x0, y0⟩ := hsH.at1 (B_at g0)
    obtain ⟨p1, x1, y1⟩ := hsH.at1 (B_at g1)
    obtain ⟨p2, x2, y2⟩ := hsH.at1 (B_at g2)
    obtain ⟨p3, x3, y3⟩ := hsH.at1 (B_at g3)
    have m4 : binB Try.prog .mul 3 (.int .i64 4) (.int .i64 (i : Int)) = some (.int .i64 ((4 * i : Nat) : Int)) := by
      rw [b_mul, show ((4 : Int) * (i : Int)) = ((4 * i : Nat) : Int) by omega, wrap_i64 (by omega) (by omega)]
    have a1 : IntKind.i64.wrap (((4 * i : Nat) : Int) + 1) = ((4 * i + 1 : Nat) : Int) := by rw [wrap_i64 (by omega) (by omega)]; omega
    have a2 : IntKind.i64.wrap (((4 * i : Nat) : Int) + 2) = ((4 * i + 2 : Nat) : Int) := by rw [wrap_i64 (by omega) (by omega)]; omega
    have a3 : IntKind.i64.wrap (((4 * i : Nat) : Int) + 3) = ((4 * i + 3 : Nat) : Int) := by rw [wrap_i64 (by omega) (by omega)]; omega
    have s24 : ∀ x : UInt32, binB Try.prog .shl 22 (iv x) (.int .u64 24) = some (iv (x <<< UInt32.ofNat 24)) := fun x => w_shl (k := 24) (by omega)
    have s16 : ∀ x : UInt32, binB Try.prog .shl 22 (iv x) (.int .u64 16) = some (iv (x <<< UInt32.ofNat 16)) := fun x => w_shl (k := 16) (by omega)
    have s8 : ∀ x : UInt32, binB Try.prog .shl 22 (iv x) (.int .u64 8) = some (iv (x <<< UInt32.ofNat 8)) := fun x => w_shl (k := 8) (by omega)
    simp only [ruA, ruB, ruC, ruE, ruD, lenStr, Int.reduceBEq, Int.reduceBNe, e1, m4, a1, a2, a3, x0, y0, x1, y1, x2, y2, x3, y3, cv_iv8 l0, cv_iv8 l1, cv_iv8 l2, cv_iv8 l3, s24, s16, s8, w_or, wd4_ref l0 l1 l2 l3, b1, b2, idx_up (show i < 9223372036854775807 by omega)]
    exact q1
theorem rwords_ok : ∃ v' H', Cl 37 [vb] H0 v' H' ∧ Keep (all H0) H0 H' ∧ Acc (all H0) H' 1 v' 64 (WC (sched d)) := by
  obtain ⟨v', H', c1, c2, c3⟩ := rwords_first hd hb hs 16 0 nilS H0 (by omega) (Keep.refl _ _) Acc.nil
  refine ⟨v', H', Ev.enter (fun n => f37_eq rfl n _ _) ?_, c2, c3⟩
  simp only [f37]
  exact Ev.loop c1
end
/-! ### primes, roots -/
def noDiv (n : Nat) : Nat → Nat → Bool
  | 0, _ => true
  | k + 1, i => n % i != 0 && noDiv n k (i + 1)
def isP (n : Nat) : Bool := noDiv n (n - 2) 2
def rtsG (p many : Nat) : Nat → List UInt32 → Nat → List UInt32
  | 0, out, _ => out
  | f + 1, out, n => if out.length < many ∧ n < 1000 then (if isP n then rtsG p many f (out ++ [rootW p n]) (n + 1) else rtsG p many f out (n + 1)) else out
theorem rts3 : rtsG 3 64 998 [] 2 = KK := by kernel_rfl
theorem rts2 : rtsG 2 8 998 [] 2 = h0.l := by kernel_rfl
theorem prime_loop {n : Nat} (hn : 2 ≤ n) (hn2 : n ≤ 1000) (H : Heap) : ∀ (k i : Nat), i + k = n → 2 ≤ i → Ev (fun a j => f52_L0 real (AC a) a j (.int .i64 (n : Int)) (.int .i64 (i : Int)) H) (.bool (noDiv n k i), H) := by
  intro k
  induction k with
  | zero =>
    intro i hi h2
    refine Ev.step (fun n m => f52_L0.eq_2 _ _ _ _ _ _ m) ?_
    have e1 : ((n : Int) > 1) = True := eq_true (by omega)
    simp only [ruA, ruB, ruC, ruE, ruD, lenStr, Int.reduceBEq, Int.reduceBNe, idx_ge (show n ≤ i by omega), e1, noDiv]
    exact Ev.pure _
  | succ k ih =>
    intro i hi h2
    refine Ev.step (fun n m => f52_L0.eq_2 _ _ _ _ _ _ m) ?_
    have er : binB Try.prog .rem 3 (.int .i64 (n : Int)) (.int .i64 (i : Int)) = some (.int .i64 ((n % i : Nat) : Int)) := by
      rw [b_rem (by omega), Int.tmod_eq_emod_of_nonneg (by omega)]; rfl
    by_cases h : n % i = 0
    · have hb : (((n % i : Nat) : Int) == 0) = true := by rw [h]; rfl
      have hv : noDiv n (k + 1) i = false := by simp [noDiv, h]
      rw [hv]
      simp only [ruA, ruB, ruC, ruE, ruD, lenStr, Int.reduceBEq, Int.reduceBNe, idx_lt (show i < n by omega), er, hb]
      exact Ev.pure _
    · have hb : (((n % i : Nat) : Int) == 0) = false := beq_false_of_ne (by omega)
      have hv : noDiv n (k + 1) i = noDiv n k (i + 1) := by simp [noDiv, h]
      rw [hv]
      simp only [ruA, ruB, ruC, ruE, ruD, lenStr, Int.reduceBEq, Int.reduceBNe, idx_lt (show i < n by omega), er, hb, idx_up (show i < 9223372036854775807 by omega)]
      exact ih (i + 1) (by omega) (by omega)
theorem prime_ok {n : Nat} (hn : 2 ≤ n) (hn2 : n ≤ 1000) (H : Heap) : Cl 52 [.int .i64 (n : Int)] H (.bool (isP n)) H := by
  refine Ev.enter (fun n => f52_eq rfl n _ _) ?_
  simp only [f52]
  exact Ev.loop (prime_loop hn hn2 H (n - 2) 2 (by omega) (by omega))
theorem rts_loop {p many : Nat} (hp : p = 2 ∨ p = 3) (hm : many ≤ 1000) {H0 : Heap} : ∀ (f n : Nat) (out : List UInt32) (v : Value) (H : Heap), n + f = 1000 → 2 ≤ n → out.length ≤ n → Keep (all H0) H0 H → Acc (all H0) H 1 v out.length (WC out) →
    ∃ v' H', Ev (fun a j => f38_L0 real (AC a) a j (.int .i64 (p : Int)) (.int .i64 (many : Int)) v (.int .i64 (n : Int)) H) (v', H') ∧ Keep (all H0) H0 H' ∧ Acc (all H0) H' 1 v' (rtsG p many f out n).length (WC (rtsG p many f out n)) := by
  intro f
  induction f with
  | zero =>
    intro n out v H hn h2 ho hK hA
    refine ⟨v, H, Ev.step (fun n m => f38_L0.eq_2 _ _ _ _ _ _ _ _ m) ?_, hK, hA⟩
    have hl := hA.sl.lenS
    have e2 : ((n : Int) < 1000) = False := eq_false (by omega)
    by_cases hc : out.length < many
    · simp only [ruA, ruB, ruC, ruE, ruD, lenStr, Int.reduceBEq, Int.reduceBNe, hl, idx_lt hc, e2]
      exact Ev.pure _
    · simp only [ruA, ruB, ruC, ruE, ruD, lenStr, Int.reduceBEq, Int.reduceBNe, hl, idx_ge (show many ≤ out.length by omega)]
      exact Ev.pure _
  | succ f ih =>
    intro n out v H hn h2 ho hK hA
    have hl := hA.sl.lenS
    have e2 : ((n : Int) < 1000) = True := eq_true (by omega)
    have up := idx_up (show n < 9223372036854775807 by omega)
    by_cases hc : out.length < many
    · have hP := prime_ok (n := n) h2 (by omega) H
      cases hpr : isP n
      · rw [hpr] at hP
        have hg : rtsG p many (f + 1) out n = rtsG p many f out (n + 1) := by
          rw [rtsG, if_pos ⟨hc, by omega⟩, hpr]; rfl
        rw [hg]
        obtain ⟨v', H', c1, c2, c3⟩ := ih (n + 1) out v H (by omega) (by omega) (by omega) hK hA
        refine ⟨v', H', Ev.step (fun n m => f38_L0.eq_2 _ _ _ _ _ _ _ _ m) ?_, c2, c3⟩
        simp only [ruA, ruB, ruC, ruE, ruD, lenStr, Int.reduceBEq, Int.reduceBNe, hl, idx_lt hc, e2]
        refine Ev.callC hP ?_
        simp only [ruA, ruB, ruC, ruE, ruD, lenStr, Int.reduceBEq, Int.reduceBNe, f38_J1, up]
        exact c1
      · rw [hpr] at hP
        have hg : rtsG p many (f + 1) out n = rtsG p many f (out ++ [rootW p n]) (n + 1) := by
          rw [rtsG, if_pos ⟨hc, by omega⟩, hpr]; rfl
        rw [hg]
        obtain ⟨H1, r1, k1⟩ := rroot_ok (p : Int) (n : Int) H
        have hr : rootN (p : Int) (n : Int) = (iv (rootW p n), .int .i64 0) := by unfold rootN; rw [if_pos (by omega)]; simp
        rw [hr] at r1
        have hK1 : Keep (all H0) H0 H1 := hK.trans (k1.mono fun b hb => Nat.lt_of_lt_of_le hb hK.1)
        have hA1 : Acc (all H0) H1 1 v out.length (WC out) := hA.keep k1
        obtain ⟨v1, H2, b1, b2, b3, b4⟩ := word_app (x := rootW p n) hK1 hA1 (by omega)
        obtain ⟨v', H', c1, c2, c3⟩ := ih (n + 1) (out ++ [rootW p n]) v1 H2 (by omega) (by omega) (by simp; omega) b4 (by simpa using b3)
        refine ⟨v', H', Ev.step (fun n m => f38_L0.eq_2 _ _ _ _ _ _ _ _ m) ?_, c2, c3⟩
        simp only [ruA, ruB, ruC, ruE, ruD, lenStr, Int.reduceBEq, Int.reduceBNe, hl, idx_lt hc, e2]
        refine Ev.callC hP ?_
        simp only [ruA, ruB, ruC, ruE, ruD, lenStr, Int.reduceBEq, Int.reduceBNe]
        refine Ev.callC r1 ?_
        simp only [ruA, ruB, ruC, ruE, ruD, lenStr, Int.reduceBEq, Int.reduceBNe, b1, b2, f38_J1, up]
        exact c1
    · have hg : rtsG p many (f + 1) out n = out := by rw [rtsG, if_neg (by omega)]
      rw [hg]
      refine ⟨v, H, Ev.step (fun n m => f38_L0.eq_2 _ _ _ _ _ _ _ _ m) ?_, hK, hA⟩
      simp only [ruA, ruB, ruC, ruE, ruD, lenStr, Int.reduceBEq, Int.reduceBNe, hl, idx_ge (show many ≤ out.length by omega)]
      exact Ev.pure _
theorem rts_ok {p many : Nat} (hp : p = 2 ∨ p = 3) (hm : many ≤ 1000) {l : List UInt32} (hl : rtsG p many 998 [] 2 = l) (H : Heap) :
    ∃ v' H', Cl 38 [.int .i64 (p : Int), .int .i64 (many : Int)] H v' H' ∧ Keep (all H) H H' ∧ Acc (all H) H' 1 v' l.length (WC l) := by
  obtain ⟨v', H', c1, c2, c3⟩ := rts_loop hp hm (H0 := H) 998 2 [] nilS H (by omega) (by omega) (by simp) (Keep.refl _ _) Acc.nil
  rw [hl] at c3
  refine ⟨v', H', Ev.enter (fun n => f38_eq rfl n _ _ _) ?_, c2, c3⟩
  simp only [f38]
  exact Ev.loop c1
end Go.Eng
