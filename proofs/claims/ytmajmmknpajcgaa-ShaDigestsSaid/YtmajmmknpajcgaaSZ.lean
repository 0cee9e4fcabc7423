/- The reference's roots. -/
import Derived.Test.YtmajmmknpajcgaaSY
set_option linter.unusedVariables false
set_option linter.unusedSimpArgs false
set_option linter.unusedSectionVars false
set_option maxRecDepth 100000
namespace Go.Eng
open Go Go.Proofs

/-! ### which is above -/
def vf (f : Nat → Nat) : Nat → Nat
  | 0 => 0
  | i + 1 => vf f i + f i * 65536 ^ i
theorem vf_lt {f : Nat → Nat} (h : ∀ i, f i < 65536) : ∀ i, vf f i < 65536 ^ i
  | 0 => by simp [vf]
  | i + 1 => by
    have := vf_lt h i
    have h1 : f i * 65536 ^ i ≤ 65535 * 65536 ^ i := Nat.mul_le_mul_right _ (by have := h i; omega)
    rw [vf, Nat.pow_succ]
    omega
theorem vf_cmp {f g : Nat → Nat} (hf : ∀ i, f i < 65536) (hg : ∀ i, g i < 65536) (i : Nat) : (f i < g i → vf f (i + 1) < vf g (i + 1)) := fun h => by
  have h1 := vf_lt hf i
  have h2 : (f i + 1) * 65536 ^ i ≤ g i * 65536 ^ i := Nat.mul_le_mul_right _ h
  have h3 : (f i + 1) * 65536 ^ i = f i * 65536 ^ i + 65536 ^ i := by rw [Nat.add_mul, Nat.one_mul]
  rw [vf, vf]
  omega
theorem vf_shift (x : Nat) (f : Nat → Nat) : ∀ n, vf (fun i => if i = 0 then x else f (i - 1)) (n + 1) = x + 65536 * vf f n
  | 0 => by simp [vf]
  | n + 1 => by
    rw [vf, vf_shift x f n, vf]
    simp only [Nat.add_eq_zero_iff, Nat.succ_ne_self, and_false, if_false, Nat.add_sub_cancel]
    rw [Nat.pow_succ]
    grind
theorem vf_congr {f g : Nat → Nat} (h : ∀ i, f i = g i) : ∀ n, vf f n = vf g n
  | 0 => rfl
  | n + 1 => by rw [vf, vf, vf_congr h n, h n]
theorem vf_zero : ∀ n, vf (fun _ => 0) n = 0
  | 0 => rfl
  | n + 1 => by simp [vf, vf_zero n]
theorem vf_val : ∀ (l : List Nat) (n : Nat), l.length ≤ n → vf (fun i => l.getD i 0) n = val l
  | [], n, _ => by rw [vf_congr (g := fun _ => 0) (fun i => by simp), vf_zero]; rfl
  | x :: l, n, h => by
    obtain ⟨m, rfl⟩ : ∃ m, n = m + 1 := ⟨n - 1, by simp at h; omega⟩
    rw [vf_congr (g := fun i => if i = 0 then x else (fun j => l.getD j 0) (i - 1)) (fun i => by cases i <;> simp), show vf (fun i => if i = 0 then x else (fun j => l.getD j 0) (i - 1)) (m + 1) = _ from vf_shift x (fun j => l.getD j 0) m, vf_val l m (by simpa using h), val]
theorem dg_get {l : List Nat} (h : Dg l) (i : Nat) : l.getD i 0 < 65536 := by
  rw [List.getD_eq_getElem?_getD]
  cases hx : l[i]? with
  | none => simp
  | some x => exact h x (List.mem_of_getElem? hx)
section
variable {K : Heap} {va vb : Value} {a b : List Nat} (ha : Sl (all K) K 1 va a.length (D a)) (hb : Sl (all K) K 1 vb b.length (D b)) (da : Dg a) (db : Dg b) (la : a.length ≤ 1000) (lb : b.length ≤ 1000)
include ha hb da db la lb
theorem above_loop : ∀ i : Nat, i ≤ 1000 → Ev (fun n m => f32_L0 real (AC n) n m va vb (.int .i64 ((i : Int) - 1)) K) (.bool (decide (vf (fun j => b.getD j 0) i < vf (fun j => a.getD j 0) i)), K) := by
  intro i
  induction i with
  | zero =>
    intro _
    refine Ev.step (fun n m => f32_L0.eq_2 _ _ _ _ _ _ _ m) ?_
    have e : ((((0 : Nat) : Int) - 1) ≥ 0) = False := by simp
    simp only [ruA, ruB, ruC, ruE, ruD, lenStr, Int.reduceBEq, Int.reduceBNe, e, vf, Nat.lt_irrefl, decide_false]
    exact Ev.pure _
  | succ i ih =>
    intro h
    have hx := ih (by omega)
    refine Ev.step (fun n m => f32_L0.eq_2 _ _ _ _ _ _ _ m) ?_
    have e0 : (((i + 1 : Nat) : Int) - 1) = (i : Int) := by omega
    have e : ((i : Int) ≥ 0) = True := by simp
    have hs : IntKind.i64.wrap ((i : Int) - 1) = (i : Int) - 1 := wrap_i64 (by omega) (by omega)
    have fin : Ev (fun n m => f32_J1 real (AC n) n (f32_L0 real (AC n) n m) va vb (.int .i64 (i : Int)) (.int .i64 ((a.getD i 0 : Nat) : Int)) (.int .i64 ((b.getD i 0 : Nat) : Int)) K) (.bool (decide (vf (fun j => b.getD j 0) (i + 1) < vf (fun j => a.getD j 0) (i + 1))), K) := by
      have fa := dg_get da
      have fb := dg_get db
      rcases Nat.lt_trichotomy (a.getD i 0) (b.getD i 0) with hc | hc | hc
      · have hv := vf_cmp fa fb i hc
        have hb1 : (((a.getD i 0 : Nat) : Int) != ((b.getD i 0 : Nat) : Int)) = true := by
          have : ((a.getD i 0 : Nat) : Int) ≠ ((b.getD i 0 : Nat) : Int) := by omega
          exact bne_iff_ne.2 this
        have hb2 : (((a.getD i 0 : Nat) : Int) > ((b.getD i 0 : Nat) : Int)) = False := eq_false (by omega)
        rw [decide_eq_false (Nat.lt_asymm hv)]
        simp only [f32_J1, ruA, ruB, ruC, ruE, ruD, lenStr, Int.reduceBEq, Int.reduceBNe, hb1, hb2]
        exact Ev.pure _
      · have he : decide (vf (fun j => b.getD j 0) (i + 1) < vf (fun j => a.getD j 0) (i + 1)) = decide (vf (fun j => b.getD j 0) i < vf (fun j => a.getD j 0) i) := by
          apply decide_eq_decide.2
          rw [vf, vf, hc]; omega
        rw [he, hc]
        simp only [f32_J1, ruA, ruB, ruC, ruE, ruD, lenStr, Int.reduceBEq, Int.reduceBNe, hs]
        exact hx
      · have hv := vf_cmp fb fa i hc
        have hb1 : (((a.getD i 0 : Nat) : Int) != ((b.getD i 0 : Nat) : Int)) = true := by
          have : ((a.getD i 0 : Nat) : Int) ≠ ((b.getD i 0 : Nat) : Int) := by omega
          exact bne_iff_ne.2 this
        have hb2 : (((a.getD i 0 : Nat) : Int) > ((b.getD i 0 : Nat) : Int)) = True := eq_true (by omega)
        rw [decide_eq_true hv]
        simp only [f32_J1, ruA, ruB, ruC, ruE, ruD, lenStr, Int.reduceBEq, Int.reduceBNe, hb1, hb2]
        exact Ev.pure _
    have fin2 : Ev (fun n m => f32_J2 real (AC n) n (f32_L0 real (AC n) n m) va vb (.int .i64 (i : Int)) (.int .i64 ((a.getD i 0 : Nat) : Int)) (.int .i64 0) K) (.bool (decide (vf (fun j => b.getD j 0) (i + 1) < vf (fun j => a.getD j 0) (i + 1))), K) := by
      by_cases hi : i < b.length
      · have hy : b[i]? = some (b.getD i 0) := by rw [List.getD_eq_getElem?_getD, List.getElem?_eq_getElem hi]; rfl
        obtain ⟨q, q1, q2⟩ := hb.at1 (D_at hy)
        simp only [f32_J2, ruA, ruB, ruC, ruE, ruD, lenStr, Int.reduceBEq, Int.reduceBNe, hb.lenS, idx_lt hi, q1, q2]
        exact fin
      · have hz : b.getD i 0 = 0 := by rw [List.getD_eq_getElem?_getD, List.getElem?_eq_none (by omega)]; rfl
        simp only [f32_J2, ruA, ruB, ruC, ruE, ruD, lenStr, Int.reduceBEq, Int.reduceBNe, hb.lenS, idx_ge (show b.length ≤ i by omega)]
        rw [hz] at fin
        exact fin
    rw [e0]
    by_cases hi : i < a.length
    · have hy : a[i]? = some (a.getD i 0) := by rw [List.getD_eq_getElem?_getD, List.getElem?_eq_getElem hi]; rfl
      obtain ⟨q, q1, q2⟩ := ha.at1 (D_at hy)
      simp only [ruA, ruB, ruC, ruE, ruD, lenStr, Int.reduceBEq, Int.reduceBNe, e, ha.lenS, idx_lt hi, q1, q2]
      exact fin2
    · have hz : a.getD i 0 = 0 := by rw [List.getD_eq_getElem?_getD, List.getElem?_eq_none (by omega)]; rfl
      simp only [ruA, ruB, ruC, ruE, ruD, lenStr, Int.reduceBEq, Int.reduceBNe, e, ha.lenS, idx_ge (show a.length ≤ i by omega)]
      rw [hz] at fin2
      exact fin2
theorem above_ok : Cl 32 [va, vb] K (.bool (decide (val b < val a))) K := by
  refine Ev.enter (fun n => f32_eq rfl n _ _ _) ?_
  obtain ⟨N, hN⟩ : ∃ N, max a.length b.length = N := ⟨_, rfl⟩
  have h := above_loop ha hb da db la lb N (by omega)
  rw [vf_val b N (by omega), vf_val a N (by omega)] at h
  have hm : maxV (.int .i64 (a.length : Int)) (.int .i64 (b.length : Int)) K = some (.int .i64 (N : Int), K) := by
    simp only [maxV, if_true]
    congr 3
    split <;> omega
  have hs : IntKind.i64.wrap ((N : Int) - 1) = (N : Int) - 1 := wrap_i64 (by omega) (by omega)
  simp only [f32, ruA, ruB, ruC, ruE, ruD, lenStr, Int.reduceBEq, Int.reduceBNe, ha.lenS, hb.lenS, hm, hs]
  exact Ev.loop h
end
/-- A number's three digits. -/
def dig3 (n : Nat) : List Nat := [n % 65536, n / 65536 % 65536, n / 4294967296]
theorem dig3_dg {n : Nat} (h : n < 281474976710656) : Dg (dig3 n) := fun d hd => by
  simp only [dig3, List.mem_cons, List.not_mem_nil, or_false] at hd
  rcases hd with rfl | rfl | rfl <;> omega
theorem dig3_val (n : Nat) : val (dig3 n) = n := by simp only [dig3, val]; omega
theorem digits_ok {n : Nat} (h : n < 281474976710656) (K : Heap) : Cl 30 [.int .i64 (n : Int)] K (.slice (some ⟨K.n, 0, none⟩) 3 3) (K.push ⟨D (dig3 n), 1, true⟩) := by
  refine Ev.enter (fun n => f30_eq rfl n _ _) ?_
  have s16 : binB Try.prog .shr 3 (.int .i64 (n : Int)) (.int .u64 16) = some (.int .i64 ((n / 65536 : Nat) : Int)) := shrN (k := 16) (by omega)
  have s32 : binB Try.prog .shr 3 (.int .i64 (n : Int)) (.int .u64 32) = some (.int .i64 ((n / 4294967296 : Nat) : Int)) := shrN (k := 32) (by omega)
  have b3 : bldS 1 3 [.int .i64 0] [(0, 1, .int .i64 ((n % 65536 : Nat) : Int)), (1, 1, .int .i64 ((n / 65536 % 65536 : Nat) : Int)), (2, 1, .int .i64 ((n / 4294967296 : Nat) : Int))] K = some (.slice (some ⟨K.n, 0, none⟩) 3 3, K.push ⟨D (dig3 n), 1, true⟩) := by rfl
  simp only [f30, ruA, ruB, ruC, ruE, ruD, lenStr, Int.reduceBEq, Int.reduceBNe, and16 (show n < 9223372036854775808 by omega), s16, and16 (show n / 65536 < 9223372036854775808 by omega), s32, b3]
  exact Ev.pure _
theorem push_D {R : Nat → Prop} {H : Heap} {d : List Nat} (hR : R H.n) : Sl R (H.push ⟨D d, 1, true⟩) 1 (.slice (some ⟨H.n, 0, none⟩) d.length d.length) d.length (D d) :=
  .inr (.inr ⟨H.n, 0, none, _, _, rfl, hR, push_self, by simp [D_len], Nat.le_refl _, by rw [cut, List.drop_zero, Nat.mul_one, ← D_len d, List.take_length]⟩)
/-! ### the root -/
theorem grd_more {n p : Nat} (hp : p = 2 ∨ p = 3) (hn : n ≤ 1000) : grd (n * 2 ^ (32 * p)) p 41 0 = grd (n * 2 ^ (32 * p)) p 39 0 := by
  have h : ∀ k, k = 40 ∨ k = 39 → ¬ (0 + 2 ^ k) ^ p ≤ n * 2 ^ (32 * p) := fun k hk h => by
    rw [Nat.zero_add] at h
    rcases hk with rfl | rfl <;> rcases hp with rfl | rfl <;> simp at h <;> omega
  rw [grd, if_neg (h 40 (.inl rfl)), grd, if_neg (h 39 (.inr rfl))]
theorem and32 {s : Nat} (h : s < 9223372036854775808) : binB Try.prog .and 3 (.int .i64 (s : Int)) (.int .i64 4294967295) = some (.int .i64 ((s % 4294967296 : Nat) : Int)) := by
  rw [b_and]
  have h1 : (BitVec.ofInt IntKind.i64.bits (s : Int) &&& BitVec.ofInt IntKind.i64.bits 4294967295).toNat = s % 4294967296 := by
    rw [BitVec.toNat_and]
    show (BitVec.ofInt 64 (s : Int)).toNat &&& (BitVec.ofInt 64 ((4294967295 : Nat) : Int)).toNat = _
    rw [bv64 (by omega), bv64 (by omega), show (4294967295 : Nat) = 2 ^ 32 - 1 from rfl, Nat.and_two_pow_sub_one_eq_mod]
  rw [h1, wrap_i64 (by omega) (by omega)]
theorem ofNat_mod32 (n : Nat) : UInt32.ofNat (n % 4294967296) = UInt32.ofNat n := by
  apply UInt32.toNat_inj.1
  simp [UInt32.toNat_ofNat']
/-- A number, multiplied so many times by itself. -/
def powD (d : List Nat) : Nat → List Nat
  | 0 => d
  | k + 1 => timesN (powD d k) d
theorem powD_all {d : List Nat} (h : Dg d) (hl : d.length = 3) : ∀ k, (powD d k).length = 3 * (k + 1) ∧ val (powD d k) = val d ^ (k + 1) ∧ Dg (powD d k)
  | 0 => ⟨by simp [powD, hl], by simp [powD], h⟩
  | k + 1 => by
    obtain ⟨h1, h2, h3⟩ := powD_all h hl k
    obtain ⟨t1, t2, t3⟩ := times_all h3 h
    exact ⟨by rw [powD, t1, h1, hl]; omega, by rw [powD, t2, h2, ← Nat.pow_succ], t3⟩
section
variable {n p : Nat} (hp : p = 2 ∨ p = 3) (hn : n ≤ 1000)
include hp hn
theorem rroot_in {R0 : Nat → Nat → Value → Value → Value → Value → Heap → Option (Value × Heap)} {x y k : Nat} {vm : Value} {m : List Nat} {res : Value} {H0 : Heap} (hy : y < 281474976710656) (dm : Dg m) (lm : m.length ≤ 1000)
    (hR : ∀ H, Keep (all H0) H0 H → ∃ H', Ev (fun a j => f12_J1 real (AC a) a (R0 a j) (.int .i64 (p : Int)) vm (if val m < y ^ p then .int .i64 (x : Int) else .int .i64 (y : Int)) (.int .i64 (k : Int)) H) (res, H') ∧ Keep (all H0) H0 H') :
    ∀ (c i : Nat) (H : Heap) (v : Value), i + c = p → 1 ≤ i → Keep (all H0) H0 H → Sl (all H0) H 1 vm m.length (D m) → Sl (all H) H 1 v (powD (dig3 y) (i - 1)).length (D (powD (dig3 y) (i - 1))) →
    ∃ H', Ev3 (fun a j q => f12_L1 real (AC a) a (R0 a j) q (.int .i64 (p : Int)) vm (.int .i64 (x : Int)) (.int .i64 (k : Int)) (.int .i64 (y : Int)) v (.int .i64 (i : Int)) H) (res, H') ∧ Keep (all H0) H0 H' := by
  have dd := dig3_dg hy
  intro c
  induction c with
  | zero =>
    intro i H v hi h1 hk hm hv
    obtain rfl : i = p := by omega
    obtain ⟨l1, l2, l3⟩ := powD_all dd rfl (i - 1)
    obtain ⟨H', c1, k1⟩ := hR H hk
    refine ⟨H', Ev3.step (fun a j q => f12_L1.eq_2 _ _ _ _ _ _ _ _ _ _ _ _ q) ?_, k1⟩
    have hmm : Sl (all H) H 1 vm m.length (D m) := hm.mono fun b hb => Nat.lt_of_lt_of_le hb hk.1
    have hab := above_ok hv hmm l3 dm (by omega) lm
    rw [l2, dig3_val, show i - 1 + 1 = i by omega] at hab
    simp only [ruA, ruB, ruC, ruE, ruD, lenStr, Int.reduceBEq, Int.reduceBNe, idx_ge (Nat.le_refl i)]
    refine Ev3.callC hab ?_
    by_cases hc : val m < y ^ i
    · rw [decide_eq_true hc]
      rw [if_pos hc] at c1
      simp only [ruA, ruB, ruC, ruE, ruD, lenStr, Int.reduceBEq, Int.reduceBNe]
      exact Ev3.of c1
    · rw [decide_eq_false hc]
      rw [if_neg hc] at c1
      simp only [ruA, ruB, ruC, ruE, ruD, lenStr, Int.reduceBEq, Int.reduceBNe]
      exact Ev3.of c1
  | succ c ih =>
    intro i H v hi h1 hk hm hv
    obtain ⟨l1, l2, l3⟩ := powD_all dd rfl (i - 1)
    obtain ⟨H1, hH1⟩ : ∃ H1, H.push ⟨D (dig3 y), 1, true⟩ = H1 := ⟨_, rfl⟩
    have n1 : H1.n = H.n + 1 := by rw [← hH1]; rfl
    have k1 : Keep (all H) H H1 := by rw [← hH1]; exact push_keep
    have hd : Sl (all H1) H1 1 (.slice (some ⟨H.n, 0, none⟩) 3 3) (dig3 y).length (D (dig3 y)) := by
      rw [← hH1]; exact push_D (d := dig3 y) (by simp [all, push_n])
    have hv1 : Sl (all H1) H1 1 v (powD (dig3 y) (i - 1)).length (D (powD (dig3 y) (i - 1))) := (hv.keep k1).mono (upA k1)
    have ht := times_ok hv1 hd l3 dd (by omega) (by show 3 ≤ 1000; omega)
    obtain ⟨t1, t2, t3⟩ := times_all l3 dd
    obtain ⟨H2, hH2⟩ : ∃ H2, H1.push ⟨D (timesN (powD (dig3 y) (i - 1)) (dig3 y)), 1, true⟩ = H2 := ⟨_, rfl⟩
    rw [hH2] at ht
    have k2 : Keep (all H1) H1 H2 := by rw [← hH2]; exact push_keep
    have n2 : H2.n = H1.n + 1 := by rw [← hH2]; rfl
    have k02 : Keep (all H0) H0 H2 := hk.trans ((k1.trans (k2.mono (upA k1))).mono fun b hb => Nat.lt_of_lt_of_le hb hk.1)
    have hpw : powD (dig3 y) (i + 1 - 1) = timesN (powD (dig3 y) (i - 1)) (dig3 y) := by
      rw [show i + 1 - 1 = (i - 1) + 1 by omega]; rfl
    have hv2 : Sl (all H2) H2 1 (.slice (some ⟨H1.n, 0, none⟩) ((powD (dig3 y) (i - 1)).length + (dig3 y).length) ((powD (dig3 y) (i - 1)).length + (dig3 y).length)) (powD (dig3 y) (i + 1 - 1)).length (D (powD (dig3 y) (i + 1 - 1))) := by
      rw [hpw, ← t1, ← hH2]
      exact push_D (by simp [all, push_n])
    have hm2 : Sl (all H0) H2 1 vm m.length (D m) := hm.keep ((k1.trans (k2.mono (upA k1))).mono fun b hb => Nat.lt_of_lt_of_le hb hk.1)
    obtain ⟨H', c3, k3⟩ := ih (i + 1) H2 _ (by omega) (by omega) k02 hm2 hv2
    refine ⟨H', Ev3.step (fun a j q => f12_L1.eq_2 _ _ _ _ _ _ _ _ _ _ _ _ q) ?_, k3⟩
    have hdc := digits_ok hy H
    rw [hH1] at hdc
    simp only [ruA, ruB, ruC, ruE, ruD, lenStr, Int.reduceBEq, Int.reduceBNe, idx_lt (show i < p by omega)]
    refine Ev3.callC hdc ?_
    refine Ev3.callC ht ?_
    have hip : i < 1000 := by rcases hp with rfl | rfl <;> omega
    simp only [ruA, ruB, ruC, ruE, ruD, lenStr, Int.reduceBEq, Int.reduceBNe, idx_up (show i < 9223372036854775807 by omega)]
    exact c3
theorem rroot_loop {H0 : Heap} {vm : Value} {m : List Nat} (dm : Dg m) (lm : m.length ≤ 1000) (hval : val m = n * 2 ^ (32 * p)) (hm : Sl (all H0) H0 1 vm m.length (D m)) : ∀ (k x : Nat) (H : Heap), k ≤ 41 → x + 2 ^ k ≤ 2199023255552 → Keep (all H0) H0 H →
    ∃ H', Ev (fun a j => f12_L0 real (AC a) a j (.int .i64 (p : Int)) vm (.int .i64 (x : Int)) (.int .i64 ((k : Int) - 1)) H) (.tuple #[iv (UInt32.ofNat (grd (n * 2 ^ (32 * p)) p k x)), .int .i64 0], H') ∧ Keep (all H0) H0 H' := by
  intro k
  induction k with
  | zero =>
    intro x H _ hx hk
    refine ⟨H, Ev.step (fun n m => f12_L0.eq_2 _ _ _ _ _ _ _ _ m) ?_, hk⟩
    have e : ((((0 : Nat) : Int) - 1) ≥ 0) = False := by simp
    simp only [ruA, ruB, ruC, ruE, ruD, lenStr, Int.reduceBEq, Int.reduceBNe, e, and32 (show x < 9223372036854775808 by omega), cv_iv, ofNat_mod32, grd]
    exact Ev.pure _
  | succ k ih =>
    intro x H hk41 hx hk
    have e0 : (((k + 1 : Nat) : Int) - 1) = (k : Int) := by omega
    have e1 : ((k : Int) ≥ 0) = True := by simp
    have h2 : 2 ^ (k + 1) = 2 ^ k + 2 ^ k := by rw [Nat.pow_succ]; omega
    have hpos := Nat.two_pow_pos k
    have hsub : IntKind.i64.wrap ((k : Int) - 1) = (k : Int) - 1 := wrap_i64 (by omega) (by omega)
    have hsh : binB Try.prog .shl 3 (.int .i64 1) (.int .i64 (k : Int)) = some (.int .i64 ((2 ^ k : Nat) : Int)) := by
      have e : (min (k : Int).toNat IntKind.i64.bits) = k := by simp only [Int.toNat_natCast]; exact Nat.min_eq_left (by show k ≤ 64; omega)
      simp only [binB, shiftB]
      rw [if_neg (by omega), e, show ((1 : Int) * 2 ^ k) = ((2 ^ k : Nat) : Int) by simp, wrap_i64 (by omega) (by omega)]
    have hyb : x + 2 ^ k < 281474976710656 := by omega
    obtain ⟨H1, hH1⟩ : ∃ H1, H.push ⟨D (dig3 (x + 2 ^ k)), 1, true⟩ = H1 := ⟨_, rfl⟩
    have n1 : H1.n = H.n + 1 := by rw [← hH1]; rfl
    have k1 : Keep (all H) H H1 := by rw [← hH1]; exact push_keep
    have k01 : Keep (all H0) H0 H1 := hk.trans (k1.mono fun b hb => Nat.lt_of_lt_of_le hb hk.1)
    have hd : Sl (all H1) H1 1 (.slice (some ⟨H.n, 0, none⟩) 3 3) (powD (dig3 (x + 2 ^ k)) (1 - 1)).length (D (powD (dig3 (x + 2 ^ k)) (1 - 1))) := by
      rw [← hH1]; exact push_D (d := dig3 (x + 2 ^ k)) (by simp [all, push_n])
    have hgr : grd (n * 2 ^ (32 * p)) p (k + 1) x = grd (n * 2 ^ (32 * p)) p k (if val m < (x + 2 ^ k) ^ p then x else x + 2 ^ k) := by
      rw [grd, hval]
      by_cases hc : (x + 2 ^ k) ^ p ≤ n * 2 ^ (32 * p)
      · rw [if_pos hc, if_neg (by omega)]
      · rw [if_neg hc, if_pos (by omega)]
    obtain ⟨H', c3, k3⟩ := rroot_in hp hn (R0 := fun a j => f12_L0 real (AC a) a j) (x := x) (y := x + 2 ^ k) (k := k) (vm := vm) (m := m) (res := .tuple #[iv (UInt32.ofNat (grd (n * 2 ^ (32 * p)) p (k + 1) x)), .int .i64 0]) (H0 := H0) hyb dm lm (fun H hkH => by
      rw [hgr]
      by_cases hc : val m < (x + 2 ^ k) ^ p
      · rw [if_pos hc, if_pos hc]
        obtain ⟨H', c, kk⟩ := ih x H (by omega) (by omega) hkH
        exact ⟨H', by simp only [f12_J1, ruA, ruB, ruC, ruE, ruD, lenStr, Int.reduceBEq, Int.reduceBNe, hsub]; exact c, kk⟩
      · rw [if_neg hc, if_neg hc]
        obtain ⟨H', c, kk⟩ := ih (x + 2 ^ k) H (by omega) (by omega) hkH
        exact ⟨H', by simp only [f12_J1, ruA, ruB, ruC, ruE, ruD, lenStr, Int.reduceBEq, Int.reduceBNe, hsub]; exact c, kk⟩) (p - 1) 1 H1 _ (by rcases hp with rfl | rfl <;> rfl) (by omega) k01 (hm.keep k01) hd
    refine ⟨H', Ev.step (fun n m => f12_L0.eq_2 _ _ _ _ _ _ _ _ m) ?_, k3⟩
    have hdc := digits_ok hyb H
    rw [hH1] at hdc
    rw [e0]
    simp only [ruA, ruB, ruC, ruE, ruD, lenStr, Int.reduceBEq, Int.reduceBNe, e1, hsh, addN (show x + 2 ^ k < 9223372036854775808 by omega)]
    refine Ev.callC hdc ?_
    exact Ev3.close c3
end
theorem rroot_ok (p n : Int) (H : Heap) : ∃ H', Cl 12 [.int .i64 p, .int .i64 n] H (.tuple #[(rootN p n).1, (rootN p n).2]) H' ∧ Keep (all H) H H' := by
  by_cases hp : p = 2 ∨ p = 3
  · by_cases h1 : n < 1
    · have hr : rootN p n = (.int .u32 0, .int .i64 2) := by unfold rootN; rw [if_neg (by omega)]
      rw [hr]
      refine ⟨H, Ev.enter (fun n => f12_eq rfl n _ _ _) ?_, Keep.refl _ _⟩
      have a1 : (p < 2) = False := eq_false (by omega)
      have a2 : (p > 3) = False := eq_false (by omega)
      simp only [f12, ruA, ruB, ruC, ruE, ruD, lenStr, Int.reduceBEq, Int.reduceBNe, a1, a2, h1, decide_true]
      exact Ev.pure _
    · by_cases h2 : n > 1000
      · have hr : rootN p n = (.int .u32 0, .int .i64 2) := by unfold rootN; rw [if_neg (by omega)]
        rw [hr]
        refine ⟨H, Ev.enter (fun n => f12_eq rfl n _ _ _) ?_, Keep.refl _ _⟩
        have a1 : (p < 2) = False := eq_false (by omega)
        have a2 : (p > 3) = False := eq_false (by omega)
        simp only [f12, ruA, ruB, ruC, ruE, ruD, lenStr, Int.reduceBEq, Int.reduceBNe, a1, a2, h1, h2, decide_true, decide_false]
        exact Ev.pure _
      · have hr : rootN p n = (iv (rootW p.toNat n.toNat), .int .i64 0) := by unfold rootN; rw [if_pos (by omega)]
        rw [hr]
        obtain ⟨a, rfl⟩ := Int.eq_ofNat_of_zero_le (show 0 ≤ n by omega)
        obtain ⟨q, rfl⟩ := Int.eq_ofNat_of_zero_le (show 0 ≤ p by omega)
        have hq : q = 2 ∨ q = 3 := by omega
        have ha : a ≤ 1000 := by omega
        obtain ⟨H1, hH1⟩ : ∃ H1, H.push ⟨D (List.replicate (2 * q) 0), 1, true⟩ = H1 := ⟨_, rfl⟩
        have n1 : H1.n = H.n + 1 := by rw [← hH1]; rfl
        have k1 : Keep (all H) H H1 := by rw [← hH1]; exact push_keep
        obtain ⟨H2, hH2⟩ : ∃ H2, H1.push ⟨D [a], 1, true⟩ = H2 := ⟨_, rfl⟩
        have n2 : H2.n = H1.n + 1 := by rw [← hH2]; rfl
        have hA : Acc (all H) H2 1 (.slice (some ⟨H.n, 0, none⟩) (2 * q) (2 * q)) (2 * q) (D (List.replicate (2 * q) 0)) := by
          refine .inr ⟨H.n, rfl, fun h => absurd h (Nat.lt_irrefl _), by omega, ?_, by simp [D]⟩
          rw [← hH2, push_lt (by omega), ← hH1]; exact push_self
        have hadd : addend 1 (.slice (some ⟨H1.n, 0, none⟩) 1 1) H2 = some (1, D [a]) := by rw [← hH2]; exact addend_push rfl
        have k2 : Keep (all H) H H2 := by rw [← hH2]; exact k1.trans (Keep.push fun b hb => by have : b < H.n := hb; omega)
        have hmb : mostBytes = 140737488355328 := rfl
        obtain ⟨v', H3, a1, a2, a3⟩ := hA.app (by_ := 8) (fun b hb => by have : b < H.n := hb; omega) hadd rfl (by omega)
        have k3 : Keep (all H) H H3 := k2.trans a3
        obtain ⟨m, hm⟩ : ∃ m, List.replicate (2 * q) 0 ++ [a] = m := ⟨_, rfl⟩
        have hml : m.length = 2 * q + 1 := by rw [← hm]; simp
        have dm : Dg m := fun d hd => by
          rw [← hm] at hd
          simp only [List.mem_append, List.mem_replicate, List.mem_cons, List.not_mem_nil, or_false] at hd
          rcases hd with ⟨_, rfl⟩ | rfl <;> omega
        have hval : val m = a * 2 ^ (32 * q) := by
          rw [← hm]
          rcases hq with rfl | rfl
          · simp only [List.replicate, List.cons_append, List.nil_append, val]; omega
          · simp only [List.replicate, List.cons_append, List.nil_append, val]; omega
        have hms : Sl (all H3) H3 1 v' m.length (D m) := by
          have := a2.sl
          rw [← D_app, hm, ← hml] at this
          exact this
        obtain ⟨H', c, kk⟩ := rroot_loop hq ha dm (by omega) hval hms 41 0 H3 (Nat.le_refl _) (by omega) (Keep.refl _ _)
        refine ⟨H', Ev.enter (fun n => f12_eq rfl n _ _ _) ?_, k3.trans (kk.mono (upA k3))⟩
        rw [grd_more hq ha] at c
        have b1 : (((q : Nat) : Int) < 2) = False := eq_false (by omega)
        have b2 : (((q : Nat) : Int) > 3) = False := eq_false (by omega)
        have mq : binB Try.prog .mul 3 (.int .i64 2) (.int .i64 (q : Int)) = some (.int .i64 ((2 * q : Nat) : Int)) := by
          rw [b_mul, show ((2 : Int) * (q : Int)) = ((2 * q : Nat) : Int) by omega, wrap_i64 (by omega) (by omega)]
        have mk : mkS 1 8 [.int .i64 0] (.int .i64 ((2 * q : Nat) : Int)) (.int .i64 ((2 * q : Nat) : Int)) H = some (.slice (some ⟨H.n, 0, none⟩) (2 * q) (2 * q), H1) := by
          simp only [mkS]
          have ho := D_one (List.replicate (2 * q) 0)
          rw [if_pos ⟨by omega, by omega, by omega, rfl, by omega, by omega⟩]
          simp only [newS, Int.toNat_natCast, rep_D]
          rw [if_pos ho, hH1]
        have b1s : bldS 1 1 [.int .i64 0] [(0, 1, .int .i64 (a : Int))] H1 = some (.slice (some ⟨H1.n, 0, none⟩) 1 1, H2) := by
          rw [bld1 rfl rfl, ← hH2]; rfl
        simp only [f12, ruA, ruB, ruC, ruE, ruD, lenStr, Int.reduceBEq, Int.reduceBNe, b1, b2, h1, h2, decide_false, mq, mk, b1s, a1]
        exact Ev.loop c
  · have hr : rootN p n = (.int .u32 0, .int .i64 2) := by unfold rootN; rw [if_neg (fun h => hp h.1)]
    rw [hr]
    refine ⟨H, Ev.enter (fun n => f12_eq rfl n _ _ _) ?_, Keep.refl _ _⟩
    by_cases h2 : p < 2
    · simp only [f12, ruA, ruB, ruC, ruE, ruD, lenStr, Int.reduceBEq, Int.reduceBNe, h2, decide_true]
      exact Ev.pure _
    · have a2 : (p > 3) = True := eq_true (by omega)
      simp only [f12, ruA, ruB, ruC, ruE, ruD, lenStr, Int.reduceBEq, Int.reduceBNe, h2, a2, decide_true, decide_false]
      exact Ev.pure _
theorem roots_law (p n : Int) (H : Heap) : ∃ H', Cl 3 [.int .i64 p, .int .i64 n] H (.bool true) H' := by
  have c1 := root_ok p n H
  obtain ⟨H2, c2, k2⟩ := rroot_ok p n H
  obtain ⟨H3, c3, _⟩ := awake_ok H2
  refine ⟨H3, Ev.enter (fun n => f3_eq rfl n _ _ _) ?_⟩
  have hc : (∃ x : UInt32, rootN p n = (iv x, .int .i64 0)) ∨ rootN p n = (iv 0, .int .i64 2) := by
    unfold rootN
    split
    · exact .inl ⟨_, rfl⟩
    · exact .inr rfl
  simp only [f3, ruA, ruB, ruC, ruE, ruD, lenStr, Int.reduceBEq, Int.reduceBNe]
  refine Ev.callC c1 ?_
  simp only [ruA, ruB, ruC, ruE, ruD, lenStr, Int.reduceBEq, Int.reduceBNe]
  refine Ev.callC c2 ?_
  rcases hc with ⟨x, hx⟩ | hx
  · rw [hx]
    have e1 : (x == x) = true := by simp
    simp only [ruA, ruB, ruC, ruE, ruD, lenStr, Int.reduceBEq, Int.reduceBNe, w_eq, e1]
    refine Ev.callC c3 ?_
    exact Ev.pure _
  · rw [hx]
    have e1 : ((0 : UInt32) == 0) = true := by simp
    simp only [ruA, ruB, ruC, ruE, ruD, lenStr, Int.reduceBEq, Int.reduceBNe, w_eq, e1]
    refine Ev.callC c3 ?_
    exact Ev.pure _
end Go.Eng
