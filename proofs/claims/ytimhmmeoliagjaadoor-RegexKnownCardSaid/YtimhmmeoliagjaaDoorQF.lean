import Derived.Test.YtimhmmeoliagjaaDoorQA
import Derived.Test.YtimhmmeoliagjaaDoorQP
import Derived.Test.YtimhmmeoliagjaaDoorEnhII
import Derived.Test.YtimhmmeoliagjaaDoorEnhDD
import Derived.Laws.Bits64
set_option linter.unusedVariables false
set_option linter.unusedSimpArgs false
set_option linter.unusedSectionVars false
set_option maxRecDepth 100000
namespace Go.Eng
open Go Go.Proofs

theorem iA {len b i : Nat} (h : i < len) {k : IntKind} : iAddrA len 1 (ptr b 0) (.int k (i : Int)) = some (ptr b i) := by
  simp only [iAddrA]
  rw [if_pos (by omega)]
  simp
theorem ldG {H : Heap} {b k sz : Nat} {ow : Bool} {cs : List Value} {v : Value} (h : H.get b = some ⟨cs, sz, ow⟩) (hv : cs[k]? = some v) : ldC (ptr b k) H = some (v, H) := by
  simp only [ldC, h, hv]
theorem ldAG {H : Heap} {b n sz : Nat} {ow : Bool} {cs : List Value} (h : H.get b = some ⟨cs, sz, ow⟩) (hn : cs.length = n) : Eng.ldA n (ptr b 0) H = some (.agg cs.toArray, H) := by
  simp only [Eng.ldA, h]
  rw [if_pos (by simp [hn])]
  simp [cut, ← hn]
theorem stG {H : Heap} {b n : Nat} {cs ds : List Value} (h : H.get b = some ⟨cs, 1, true⟩) (hc : cs.length = n) (hd : ds.length = n) (h1 : ds.all oneC = true) : stV n (ptr b 0) (.agg ds.toArray) H = some (undef, H.upd b (some ⟨ds, 1, true⟩)) := by
  have hw : (Value.agg ds.toArray).cells = ds.toArray := rfl
  simp only [stV, h, hw]
  rw [if_pos ⟨by simp [hd], by simpa using h1, by simp [hc], rfl⟩]
  have e : splice cs 0 ds = ds := by
    unfold splice
    rw [List.drop_eq_nil_of_le (by omega)]
    simp
  simp [e]
theorem wrap_u64 {n : Nat} (h : n < 18446744073709551616) : IntKind.u64.wrap (n : Int) = (n : Int) := by
  rw [IntKind.wrap_u64]; omega
theorem bv64 {n : Nat} (h : n < 18446744073709551616) : (BitVec.ofInt 64 (n : Int)).toNat = n := by
  simp [BitVec.toNat_ofInt, Nat.mod_eq_of_lt h]
section
variable {P : Program} {t : TypeId} {a b : Nat} {H : Heap}
theorem u64_or (ha : a < 18446744073709551616) (hb : b < 18446744073709551616) : binB P .or t (.int .u64 (a : Int)) (.int .u64 (b : Int)) = some (.int .u64 ((a ||| b : Nat) : Int)) := by
  rw [b_or]
  have h1 : (BitVec.ofInt IntKind.u64.bits (a : Int) ||| BitVec.ofInt IntKind.u64.bits (b : Int)).toNat = a ||| b := by
    rw [BitVec.toNat_or]
    show (BitVec.ofInt 64 (a : Int)).toNat ||| (BitVec.ofInt 64 (b : Int)).toNat = _
    rw [bv64 ha, bv64 hb]
  rw [h1, wrap_u64 (Nat.or_lt_two_pow (n := 64) ha hb)]
theorem u64_and (ha : a < 18446744073709551616) (hb : b < 18446744073709551616) : binB P .and t (.int .u64 (a : Int)) (.int .u64 (b : Int)) = some (.int .u64 ((a &&& b : Nat) : Int)) := by
  rw [b_and]
  have h1 : (BitVec.ofInt IntKind.u64.bits (a : Int) &&& BitVec.ofInt IntKind.u64.bits (b : Int)).toNat = a &&& b := by
    rw [BitVec.toNat_and]
    show (BitVec.ofInt 64 (a : Int)).toNat &&& (BitVec.ofInt 64 (b : Int)).toNat = _
    rw [bv64 ha, bv64 hb]
  rw [h1, wrap_u64 (Nat.lt_of_le_of_lt Nat.and_le_left ha)]
theorem u64_not (ha : a < 18446744073709551616) : unB .xor (.int .u64 (a : Int)) = some (.int .u64 ((18446744073709551615 - a : Nat) : Int)) := by
  have : (~~~(BitVec.ofInt 64 (a : Int))).toNat = 18446744073709551615 - a := by
    rw [BitVec.toNat_not, bv64 ha]
  simp only [unB]
  show some (Value.int .u64 (IntKind.u64.wrap ((~~~(BitVec.ofInt 64 (a : Int))).toNat : Int))) = _
  rw [this, wrap_u64 (by omega)]
theorem u64_shl {k : Nat} {kk : IntKind} (h : a * 2 ^ k < 18446744073709551616) (hk : k < 64) : binB P .shl t (.int .u64 (a : Int)) (.int kk (k : Int)) = some (.int .u64 ((a * 2 ^ k : Nat) : Int)) := by
  have e : (min (k : Int).toNat IntKind.u64.bits) = k := by simp only [Int.toNat_natCast]; exact Nat.min_eq_left (by show k ≤ 64; omega)
  simp only [binB, shiftB]
  rw [if_neg (by omega), e, show ((a : Int) * 2 ^ k) = ((a * 2 ^ k : Nat) : Int) by simp, wrap_u64 h]
theorem u64_shr {k : Nat} {kk : IntKind} (hk : k < 64) : binB P .shr t (.int .u64 (a : Int)) (.int kk (k : Int)) = some (.int .u64 ((a / 2 ^ k : Nat) : Int)) := by
  have e : (min (k : Int).toNat IntKind.u64.bits) = k := by simp only [Int.toNat_natCast]; exact Nat.min_eq_left (by show k ≤ 64; omega)
  rw [b_shr (by omega), e]
  congr 2
  rw [Int.fdiv_eq_ediv_of_nonneg _ (by exact Int.pow_nonneg (by omega))]
  norm_cast
theorem u64_one {k : Nat} {kk : IntKind} (hk : k < 64) : binB P .shl t (.int .u64 1) (.int kk (k : Int)) = some (.int .u64 ((2 ^ k : Nat) : Int)) := by
  have h : 2 ^ k < 18446744073709551616 := Nat.pow_lt_pow_right (by omega) (show k < 64 by omega)
  have := u64_shl (P := P) (t := t) (a := 1) (k := k) (kk := kk) (by omega) hk
  rw [Nat.one_mul] at this
  exact this
theorem u8_q64 {c : Nat} (h : c < 256) : binB P .quo t (.int .u8 (c : Int)) (.int .u8 64) = some (.int .u8 ((c / 64 : Nat) : Int)) := by
  rw [b_quo (by decide), Int.tdiv_eq_ediv_of_nonneg (by omega)]
  congr 2
  show ((c : Int) / 64) % 256 = _
  omega
theorem u8_r64 {c : Nat} : binB P .rem t (.int .u8 (c : Int)) (.int .u8 64) = some (.int .u8 ((c % 64 : Nat) : Int)) := by
  rw [b_rem (by decide), Int.tmod_eq_emod_of_nonneg (by omega)]; rfl
theorem i_q64 {c : Nat} (h : c < 256) : binB P .quo t (.int .i64 (c : Int)) (.int .i64 64) = some (.int .i64 ((c / 64 : Nat) : Int)) := by
  rw [b_quo (by decide), Int.tdiv_eq_ediv_of_nonneg (by omega), wrap_i64 (by omega) (by omega)]; rfl
theorem i_r64 {c : Nat} : binB P .rem t (.int .i64 (c : Int)) (.int .i64 64) = some (.int .i64 ((c % 64 : Nat) : Int)) := by
  rw [b_rem (by decide), Int.tmod_eq_emod_of_nonneg (by omega)]; rfl
end
def W4 (g : Nat → Nat) : List Value := [.int .u64 (g 0 : Int), .int .u64 (g 1 : Int), .int .u64 (g 2 : Int), .int .u64 (g 3 : Int)]
def SC (s : Nat) : List Value := W4 (wrd s)
def mixW (f g : Nat → Nat) (i : Nat) : List Value := W4 fun j => if j < i then f j else g j
theorem four {i : Nat} (h : i < 4) : i = 0 ∨ i = 1 ∨ i = 2 ∨ i = 3 := by omega
theorem W4_at (g : Nat → Nat) {i : Nat} (h : i < 4) : (W4 g)[i]? = some (.int .u64 (g i : Int)) := by
  rcases four h with rfl | rfl | rfl | rfl <;> rfl
theorem mixW_at (f g : Nat → Nat) {i : Nat} (h : i < 4) : (mixW f g i)[i]? = some (.int .u64 (g i : Int)) := by
  rw [mixW, W4_at _ h, if_neg (by omega)]
theorem mixW_set (f g : Nat → Nat) {i : Nat} (h : i < 4) : (mixW f g i).set i (.int .u64 (f i : Int)) = mixW f g (i + 1) := by
  rcases four h with rfl | rfl | rfl | rfl <;> rfl
theorem mixW_4 (f g : Nat → Nat) : mixW f g 4 = W4 f := rfl
theorem SC_zero : ([.int .u64 0, .int .u64 0, .int .u64 0, .int .u64 0] : List Value) = SC 0 := rfl
theorem SC_len (s : Nat) : (SC s).length = 4 := rfl
theorem SC_one (s : Nat) : (SC s).all oneC = true := rfl
theorem W4_ext {f g : Nat → Nat} (h : ∀ i, i < 4 → f i = g i) : W4 f = W4 g := by
  simp [W4, h 0, h 1, h 2, h 3]
theorem SC_or {s c : Nat} (hc : c < 256) : (SC s).set (c / 64) (.int .u64 ((wrd s (c / 64) ||| 2 ^ (c % 64) : Nat) : Int)) = SC (s ||| 2 ^ c) := by
  have h4 : c / 64 < 4 := by omega
  have e : SC (s ||| 2 ^ c) = W4 fun j => if c / 64 = j then wrd s j ||| 2 ^ (c % 64) else wrd s j := by
    unfold SC
    refine W4_ext fun i hi => ?_
    rw [wrd_or, wrd_pow]
    split
    · rfl
    · rw [Nat.or_zero]
  rw [e]
  unfold SC
  rcases four h4 with h | h | h | h <;> rw [h] <;> rfl
section
variable {E : Ext} {H : Heap}
theorem snot_loop {b1 b2 s : Nat} (hne : b1 ≠ b2) : ∀ (k i : Nat) (H : Heap), i + k = 4 → H.get b1 = some ⟨mixW (fun j => 18446744073709551615 - wrd s j) (wrd s) i, 1, true⟩ → H.get b2 = some ⟨SC 0, 1, true⟩ →
    ∃ H', Ev (fun n m => f31_L0 real (acall Tryd.prog true E n) n m (ptr b1 0) (ptr b2 0) (.int .i64 (i : Int)) H) (.agg (SC (notS s)).toArray, H') ∧ Keep (fun b => b ≠ b1 ∧ b ≠ b2) H H' := by
  intro k
  induction k with
  | zero =>
    intro i H hi h1 h2
    obtain rfl : i = 4 := by omega
    have e0 : mixW (fun j => 18446744073709551615 - wrd s j) (wrd s) 4 = SC (notS s) := by
      rw [mixW_4]
      exact W4_ext fun i hi => (wrd_not hi).symm
    rw [e0] at h1
    refine ⟨H.upd b2 (some ⟨SC (notS s), 1, true⟩), Ev.step (fun n m => f31_L0.eq_2 _ _ _ _ _ _ _ m) ?_, Keep.upd fun h => h.2 rfl⟩
    have e : (((4 : Nat) : Int) < 4) = False := by simp
    simp only [ruA, ruB, ruC, ruE, ruD, lenStr, Int.reduceBEq, Int.reduceBNe, e, ldAG h1 (SC_len _), stG h2 (SC_len _) (SC_len _) (SC_one _), ldAG (H := H.upd b2 (some ⟨SC (notS s), 1, true⟩)) upd_self (SC_len _), Option.map_some, resM1, one1]
    exact Ev.pure _
  | succ k ih =>
    intro i H hi h1 h2
    obtain ⟨H1, hH1⟩ : ∃ H1, H.upd b1 (some ⟨mixW (fun j => 18446744073709551615 - wrd s j) (wrd s) (i + 1), 1, true⟩) = H1 := ⟨_, rfl⟩
    have k0 : Keep (fun b => b ≠ b1 ∧ b ≠ b2) H H1 := by rw [← hH1]; exact Keep.upd fun h => h.1 rfl
    obtain ⟨H', c1, k1⟩ := ih (i + 1) H1 (by omega) (by rw [← hH1]; exact upd_self) (by rw [← hH1, upd_ne (Ne.symm hne)]; exact h2)
    refine ⟨H', Ev.step (fun n m => f31_L0.eq_2 _ _ _ _ _ _ _ m) ?_, k0.trans k1⟩
    have e : ((i : Int) < 4) = True := eq_true (by omega)
    have st : stV 1 (ptr b1 i) (.int .u64 ((18446744073709551615 - wrd s i : Nat) : Int)) H = some (undef, H1) := by
      rw [stV1_box h1 (by show i < 4; omega) rfl rfl, mixW_set _ _ (by omega), hH1]
    simp only [ruA, ruB, ruC, ruE, ruD, lenStr, Int.reduceBEq, Int.reduceBNe, e, iA (show i < 4 by omega), ldG h1 (mixW_at _ _ (i := i) (by omega)), u64_not (wrd_lt s i), st, idx_up (show i < 9223372036854775807 by omega)]
    exact c1
theorem snot_ok (hE : E 31 = none) (s : Nat) : ∃ H', ClP Tryd.prog true E 31 [.agg (SC s).toArray] H (.agg (SC (notS s)).toArray) H' ∧ Keep (all H) H H' := by
  obtain ⟨H1, hH1⟩ : ∃ H1, (H.push ⟨SC s, 1, true⟩).push ⟨SC 0, 1, true⟩ = H1 := ⟨_, rfl⟩
  have n1 : H1.n = H.n + 2 := by rw [← hH1]; rfl
  have k1 : Keep (all H) H H1 := by rw [← hH1]; exact push_keep.trans (push_keep.mono (upA push_keep))
  have g1 : H1.get H.n = some ⟨SC s, 1, true⟩ := by rw [← hH1, push_lt (by simp [push_n])]; exact push_self
  have g2 : H1.get (H.n + 1) = some ⟨SC 0, 1, true⟩ := by rw [← hH1]; exact push_self
  obtain ⟨H', c1, k2⟩ := snot_loop (E := E) (b1 := H.n) (b2 := H.n + 1) (s := s) (by omega) 4 0 H1 (by omega) g1 g2
  refine ⟨H', Ev.enter (fun n => f31_eq hE n _ _) ?_, k1.trans (k2.mono fun b hb => by have : b < H.n := hb; exact ⟨by omega, by omega⟩)⟩
  simp only [f31, ruA, newA (SC_one s)]
  rw [SC_zero]
  simp only [ruA, newV_box (SC_one _), push_n, hH1]
  exact Ev.loop c1
theorem suni_loop {b2 b3 b4 s t : Nat} (n23 : b2 ≠ b3) (n24 : b2 ≠ b4) (n34 : b3 ≠ b4) : ∀ (k i : Nat) (H : Heap), i + k = 4 → H.get b2 = some ⟨mixW (fun j => wrd s j ||| wrd t j) (wrd s) i, 1, true⟩ → H.get b3 = some ⟨SC t, 1, true⟩ → H.get b4 = some ⟨SC 0, 1, true⟩ →
    ∃ H', Ev (fun n m => f102_L0 real (acall Tryd.prog true E n) n m (ptr b2 0) (ptr b3 0) (ptr b4 0) (.int .i64 (i : Int)) H) (.agg (SC (s ||| t)).toArray, H') ∧ Keep (fun b => b ≠ b2 ∧ b ≠ b4) H H' := by
  intro k
  induction k with
  | zero =>
    intro i H hi h1 h3 h2
    obtain rfl : i = 4 := by omega
    have e0 : mixW (fun j => wrd s j ||| wrd t j) (wrd s) 4 = SC (s ||| t) := by
      rw [mixW_4]
      exact W4_ext fun i hi => (wrd_or s t i).symm
    rw [e0] at h1
    refine ⟨H.upd b4 (some ⟨SC (s ||| t), 1, true⟩), Ev.step (fun n m => f102_L0.eq_2 _ _ _ _ _ _ _ _ m) ?_, Keep.upd fun h => h.2 rfl⟩
    have e : (((4 : Nat) : Int) < 4) = False := by simp
    simp only [ruA, ruB, ruC, ruE, ruD, lenStr, Int.reduceBEq, Int.reduceBNe, e, ldAG h1 (SC_len _), stG h2 (SC_len _) (SC_len _) (SC_one _), ldAG (H := H.upd b4 (some ⟨SC (s ||| t), 1, true⟩)) upd_self (SC_len _), Option.map_some, resM1, one1]
    exact Ev.pure _
  | succ k ih =>
    intro i H hi h1 h3 h2
    obtain ⟨H1, hH1⟩ : ∃ H1, H.upd b2 (some ⟨mixW (fun j => wrd s j ||| wrd t j) (wrd s) (i + 1), 1, true⟩) = H1 := ⟨_, rfl⟩
    have k0 : Keep (fun b => b ≠ b2 ∧ b ≠ b4) H H1 := by rw [← hH1]; exact Keep.upd fun h => h.1 rfl
    obtain ⟨H', c1, k1⟩ := ih (i + 1) H1 (by omega) (by rw [← hH1]; exact upd_self) (by rw [← hH1, upd_ne (Ne.symm n23)]; exact h3) (by rw [← hH1, upd_ne (Ne.symm n24)]; exact h2)
    refine ⟨H', Ev.step (fun n m => f102_L0.eq_2 _ _ _ _ _ _ _ _ m) ?_, k0.trans k1⟩
    have e : ((i : Int) < 4) = True := eq_true (by omega)
    have st : stV 1 (ptr b2 i) (.int .u64 ((wrd s i ||| wrd t i : Nat) : Int)) H = some (undef, H1) := by
      rw [stV1_box h1 (by show i < 4; omega) rfl rfl, mixW_set _ _ (by omega), hH1]
    simp only [ruA, ruB, ruC, ruE, ruD, lenStr, Int.reduceBEq, Int.reduceBNe, e, iA (show i < 4 by omega), ldG h1 (mixW_at _ _ (i := i) (by omega)), ldG h3 (W4_at _ (i := i) (by omega)), u64_or (wrd_lt s i) (wrd_lt t i), st, idx_up (show i < 9223372036854775807 by omega)]
    exact c1
theorem suni_ok (hE : E 102 = none) (s t : Nat) : ∃ H', ClP Tryd.prog true E 102 [.agg (SC s).toArray, .agg (SC t).toArray] H (.agg (SC (s ||| t)).toArray) H' ∧ Keep (all H) H H' := by
  obtain ⟨H1, hH1⟩ : ∃ H1, ((H.push ⟨SC s, 1, true⟩).push ⟨SC t, 1, true⟩).push ⟨SC 0, 1, true⟩ = H1 := ⟨_, rfl⟩
  have n1 : H1.n = H.n + 3 := by rw [← hH1]; rfl
  have k1 : Keep (all H) H H1 := by rw [← hH1]; exact (push_keep.trans (push_keep.mono (upA push_keep))).trans (Keep.push fun b hb => by have : b < H.n := hb; simp [push_n]; omega)
  have g1 : H1.get H.n = some ⟨SC s, 1, true⟩ := by rw [← hH1, push_lt (by simp [push_n]; omega), push_lt (by simp [push_n])]; exact push_self
  have g2 : H1.get (H.n + 1) = some ⟨SC t, 1, true⟩ := by rw [← hH1, push_lt (by simp [push_n])]; exact push_self
  have g3 : H1.get (H.n + 2) = some ⟨SC 0, 1, true⟩ := by rw [← hH1]; exact push_self
  obtain ⟨H', c1, k2⟩ := suni_loop (E := E) (b2 := H.n) (b3 := H.n + 1) (b4 := H.n + 2) (s := s) (t := t) (by omega) (by omega) (by omega) 4 0 H1 (by omega) g1 g2 g3
  refine ⟨H', Ev.enter (fun n => f102_eq hE n _ _ _) ?_, k1.trans (k2.mono fun b hb => by have : b < H.n := hb; exact ⟨by omega, by omega⟩)⟩
  simp only [f102, ruA, newA (SC_one s), newA (SC_one t)]
  rw [SC_zero]
  simp only [ruA, newV_box (SC_one _), push_n, hH1]
  exact Ev.loop c1
theorem test_div {s c : Nat} : ((((wrd s (c / 64) / 2 ^ (c % 64)) &&& 1 : Nat) : Int) == 1) = s.testBit c := by
  have h : s.testBit c = (wrd s (c / 64)).testBit (c % 64) := by
    rw [wrd_bit, show 64 * (c / 64) + c % 64 = c by omega, decide_eq_true (show c % 64 < 64 by omega), Bool.true_and]
  rw [h, Nat.testBit_eq_decide_div_mod_eq, Nat.and_one_is_mod]
  rcases Nat.mod_two_eq_zero_or_one (wrd s (c / 64) / 2 ^ (c % 64)) with h | h <;> rw [h] <;> rfl
theorem shas_ok (hE : E 59 = none) (s : Nat) {c : Nat} (hc : c < 256) : ∃ H', ClP Tryd.prog true E 59 [.agg (SC s).toArray, .int .u8 (c : Int)] H (.bool (s.testBit c)) H' ∧ Keep (all H) H H' := by
  refine ⟨H.push ⟨SC s, 1, true⟩, Ev.enter (fun n => f59_eq hE n _ _ _) ?_, push_keep⟩
  have hq : wrd s (c / 64) / 2 ^ (c % 64) < 18446744073709551616 := Nat.lt_of_le_of_lt (Nat.div_le_self _ _) (wrd_lt _ _)
  have ha : binB Tryd.prog .and 54 (.int .u64 ((wrd s (c / 64) / 2 ^ (c % 64) : Nat) : Int)) (.int .u64 1) = some (.int .u64 (((wrd s (c / 64) / 2 ^ (c % 64)) &&& 1 : Nat) : Int)) := u64_and (b := 1) hq (by decide)
  have hl : ldC (ptr H.n (c / 64)) (H.push ⟨SC s, 1, true⟩) = some (.int .u64 (wrd s (c / 64) : Int), H.push ⟨SC s, 1, true⟩) := ldG push_self (W4_at (wrd s) (i := c / 64) (by omega))
  simp only [f59, ruA, ruB, ruC, ruE, ruD, lenStr, Int.reduceBEq, Int.reduceBNe, newA (SC_one s), u8_q64 hc, iA (show c / 64 < 4 by omega), hl, u8_r64, u64_shr (show c % 64 < 64 by omega), ha, test_div]
  exact Ev.pure _
end
end Go.Eng

set_option linter.unusedVariables false
set_option linter.unusedSimpArgs false
set_option linter.unusedSectionVars false
set_option maxRecDepth 100000
namespace Go.Eng
open Go Go.Proofs

theorem ofS_snoc (l : List Nat) (c : Nat) : ofS (l ++ [c]) = ofS l ||| 2 ^ c := by simp [ofS]
theorem spanS_snoc {a c : Nat} (h : a ≤ c) : spanS a c = (List.range (c - a)).foldl (fun s k => s ||| 2 ^ (a + k)) 0 ||| 2 ^ c := by
  unfold spanS
  rw [show c + 1 - a = (c - a) + 1 by omega, List.range_succ, List.foldl_append]
  simp only [List.foldl_cons, List.foldl_nil]
  rw [show a + (c - a) = c by omega]
section
variable {E : Ext} {H : Heap}
theorem sof_loop {R : Nat → Prop} {b2 b3 : Nat} {l : List Nat} {v : Value} (hne : b2 ≠ b3) (hR2 : ¬ R b2) (hR3 : ¬ R b3) (hb : ∀ c ∈ l, c < 256) (hl : l.length < 1000000) : ∀ (k i : Nat) (H : Heap), i + k = l.length → Sl R H 1 v l.length (B l) → H.get b3 = some ⟨SC (ofS (l.take i)), 1, true⟩ → H.get b2 = some ⟨SC 0, 1, true⟩ →
    ∃ H', Ev (fun n m => f32_L0 real (acall Tryd.prog true E n) n m (ptr b2 0) (ptr b3 0) v (.int .i64 (l.length : Int)) (.int .i64 (i : Int)) H) (.agg (SC (ofS l)).toArray, H') ∧ Keep (fun b => b ≠ b2 ∧ b ≠ b3) H H' := by
  intro k
  induction k with
  | zero =>
    intro i H hi hs h3 h2
    obtain rfl : i = l.length := by omega
    rw [List.take_length] at h3
    refine ⟨H.upd b2 (some ⟨SC (ofS l), 1, true⟩), Ev.step (fun n m => f32_L0.eq_2 _ _ _ _ _ _ _ _ _ m) ?_, Keep.upd fun h => h.1 rfl⟩
    simp only [ruA, ruB, ruC, ruE, ruD, lenStr, Int.reduceBEq, Int.reduceBNe, idx_ge (Nat.le_refl _), ldAG h3 (SC_len _), stG h2 (SC_len _) (SC_len _) (SC_one _), ldAG (H := H.upd b2 (some ⟨SC (ofS l), 1, true⟩)) upd_self (SC_len _), Option.map_some, resM1, one1]
    exact Ev.pure _
  | succ k ih =>
    intro i H hi hs h3 h2
    obtain ⟨c, hc⟩ : ∃ c, l[i]? = some c := ⟨l[i]'(by omega), List.getElem?_eq_getElem (by omega)⟩
    have hc256 := hb c (List.mem_of_getElem? hc)
    have ht : ofS (l.take (i + 1)) = ofS (l.take i) ||| 2 ^ c := by rw [List.take_add_one, hc]; exact ofS_snoc _ _
    obtain ⟨H1, hH1⟩ : ∃ H1, H.upd b3 (some ⟨SC (ofS (l.take (i + 1))), 1, true⟩) = H1 := ⟨_, rfl⟩
    have k0 : Keep (fun b => b ≠ b2 ∧ b ≠ b3) H H1 := by rw [← hH1]; exact Keep.upd fun h => h.2 rfl
    have kR : Keep R H H1 := by rw [← hH1]; exact Keep.upd fun h => hR3 h
    obtain ⟨H', c1, k1⟩ := ih (i + 1) H1 (by omega) (hs.keep kR) (by rw [← hH1]; exact upd_self) (by rw [← hH1, upd_ne hne]; exact h2)
    refine ⟨H', Ev.step (fun n m => f32_L0.eq_2 _ _ _ _ _ _ _ _ _ m) ?_, k0.trans k1⟩
    have hx : (B l)[i]? = some (.int .u8 (c : Int)) := by simp [B, hc]
    obtain ⟨p, p1, p2⟩ := hs.at1 hx
    have hw : 2 ^ (c % 64) < 18446744073709551616 := Nat.pow_lt_pow_right (by omega) (show c % 64 < 64 by omega)
    have st : stV 1 (ptr b3 (c / 64)) (.int .u64 ((wrd (ofS (l.take i)) (c / 64) ||| 2 ^ (c % 64) : Nat) : Int)) H = some (undef, H1) := by
      rw [stV1_box h3 (by show c / 64 < 4; omega) rfl rfl, SC_or hc256, ← ht, hH1]
    simp only [ruA, ruB, ruC, ruE, ruD, lenStr, Int.reduceBEq, Int.reduceBNe, idx_lt (show i < l.length by omega), p1, p2, u8_q64 hc256, iA (show c / 64 < 4 by omega), ldG h3 (W4_at _ (i := c / 64) (by omega)), u8_r64, u64_one (show c % 64 < 64 by omega), u64_or (wrd_lt _ _) hw, st, idx_up (show i < 9223372036854775807 by omega)]
    exact c1
theorem sof_ok (hE : E 32 = none) {l : List Nat} {v : Value} (hs : Sl (all H) H 1 v l.length (B l)) (hb : ∀ c ∈ l, c < 256) (hl : l.length < 1000000) : ∃ H', ClP Tryd.prog true E 32 [v] H (.agg (SC (ofS l)).toArray) H' ∧ Keep (all H) H H' := by
  obtain ⟨H1, hH1⟩ : ∃ H1, (H.push ⟨SC 0, 1, true⟩).push ⟨SC 0, 1, true⟩ = H1 := ⟨_, rfl⟩
  have n1 : H1.n = H.n + 2 := by rw [← hH1]; rfl
  have k1 : Keep (all H) H H1 := by rw [← hH1]; exact push_keep.trans (push_keep.mono (upA push_keep))
  have g1 : H1.get H.n = some ⟨SC 0, 1, true⟩ := by rw [← hH1, push_lt (by simp [push_n])]; exact push_self
  have g2 : H1.get (H.n + 1) = some ⟨SC 0, 1, true⟩ := by rw [← hH1]; exact push_self
  obtain ⟨H', c1, k2⟩ := sof_loop (E := E) (R := all H) (b2 := H.n) (b3 := H.n + 1) (by omega) (fun h => by have : H.n < H.n := h; omega) (fun h => by have : H.n + 1 < H.n := h; omega) hb hl l.length 0 H1 (by omega) (hs.keep k1) g2 g1
  refine ⟨H', Ev.enter (fun n => f32_eq hE n _ _) ?_, k1.trans (k2.mono fun b hb => by have : b < H.n := hb; exact ⟨by omega, by omega⟩)⟩
  simp only [f32]
  rw [SC_zero]
  simp only [ruA, newV_box (SC_one _), push_n, hH1, hs.lenS]
  exact Ev.loop c1
theorem sspan_loop {b4 b5 x y : Nat} (hne : b4 ≠ b5) (hx : x < 256) (hy : y < 256) : ∀ (k c : Nat) (H : Heap), (c + k = y + 1 ∨ (y < c ∧ k = 0)) → x ≤ c → H.get b5 = some ⟨SC ((List.range (c - x)).foldl (fun s k => s ||| 2 ^ (x + k)) 0), 1, true⟩ → H.get b4 = some ⟨SC 0, 1, true⟩ → c - x = min (c - x) (y + 1 - x) →
    ∃ H', Ev (fun n m => f33_L0 real (acall Tryd.prog true E n) n m (.int .u8 (y : Int)) (ptr b4 0) (ptr b5 0) (.int .i64 (c : Int)) H) (.agg (SC (spanS x y)).toArray, H') ∧ Keep (fun b => b ≠ b4 ∧ b ≠ b5) H H' := by
  have hcv : ∀ H : Heap, cvI .i64 (.int .u8 (y : Int)) H = some (.int .i64 (y : Int), H) := fun H => by
    simp only [cvI]; rw [wrap_i64 (by omega) (by omega)]
  intro k
  induction k with
  | zero =>
    intro c H hc hxc h5 h4 hm
    have hyc : y < c := by omega
    have he : SC ((List.range (c - x)).foldl (fun s k => s ||| 2 ^ (x + k)) 0) = SC (spanS x y) := by
      rw [show c - x = y + 1 - x by omega]; rfl
    rw [he] at h5
    refine ⟨H.upd b4 (some ⟨SC (spanS x y), 1, true⟩), Ev.step (fun n m => f33_L0.eq_2 _ _ _ _ _ _ _ _ m) ?_, Keep.upd fun h => h.1 rfl⟩
    have e : ((c : Int) ≤ (y : Int)) = False := eq_false (by omega)
    simp only [ruA, ruB, ruC, ruE, ruD, lenStr, Int.reduceBEq, Int.reduceBNe, hcv, e, ldAG h5 (SC_len _), stG h4 (SC_len _) (SC_len _) (SC_one _), ldAG (H := H.upd b4 (some ⟨SC (spanS x y), 1, true⟩)) upd_self (SC_len _), Option.map_some, resM1, one1]
    exact Ev.pure _
  | succ k ih =>
    intro c H hc hxc h5 h4 hm
    have hcy : c ≤ y := by omega
    have ht : SC ((List.range (c + 1 - x)).foldl (fun s k => s ||| 2 ^ (x + k)) 0) = SC ((List.range (c - x)).foldl (fun s k => s ||| 2 ^ (x + k)) 0 ||| 2 ^ c) := by
      have := spanS_snoc hxc
      unfold spanS at this
      rw [this]
    obtain ⟨H1, hH1⟩ : ∃ H1, H.upd b5 (some ⟨SC ((List.range (c + 1 - x)).foldl (fun s k => s ||| 2 ^ (x + k)) 0), 1, true⟩) = H1 := ⟨_, rfl⟩
    have k0 : Keep (fun b => b ≠ b4 ∧ b ≠ b5) H H1 := by rw [← hH1]; exact Keep.upd fun h => h.2 rfl
    obtain ⟨H', c1, k1⟩ := ih (c + 1) H1 (by omega) (by omega) (by rw [← hH1]; exact upd_self) (by rw [← hH1, upd_ne hne]; exact h4) (by omega)
    refine ⟨H', Ev.step (fun n m => f33_L0.eq_2 _ _ _ _ _ _ _ _ m) ?_, k0.trans k1⟩
    have e : ((c : Int) ≤ (y : Int)) = True := eq_true (by omega)
    have hw : 2 ^ (c % 64) < 18446744073709551616 := Nat.pow_lt_pow_right (by omega) (show c % 64 < 64 by omega)
    have st : stV 1 (ptr b5 (c / 64)) (.int .u64 ((wrd ((List.range (c - x)).foldl (fun s k => s ||| 2 ^ (x + k)) 0) (c / 64) ||| 2 ^ (c % 64) : Nat) : Int)) H = some (undef, H1) := by
      rw [stV1_box h5 (by show c / 64 < 4; omega) rfl rfl, SC_or (by omega), ← ht, hH1]
    simp only [ruA, ruB, ruC, ruE, ruD, lenStr, Int.reduceBEq, Int.reduceBNe, hcv, e, i_q64 (show c < 256 by omega), iA (show c / 64 < 4 by omega), ldG h5 (W4_at _ (i := c / 64) (by omega)), i_r64, u64_one (show c % 64 < 64 by omega), u64_or (wrd_lt _ _) hw, st, idx_up (show c < 9223372036854775807 by omega)]
    exact c1
theorem sspan_ok (hE : E 33 = none) {x y : Nat} (hx : x < 256) (hy : y < 256) : ∃ H', ClP Tryd.prog true E 33 [.int .u8 (x : Int), .int .u8 (y : Int)] H (.agg (SC (spanS x y)).toArray) H' ∧ Keep (all H) H H' := by
  obtain ⟨H1, hH1⟩ : ∃ H1, (H.push ⟨SC 0, 1, true⟩).push ⟨SC 0, 1, true⟩ = H1 := ⟨_, rfl⟩
  have n1 : H1.n = H.n + 2 := by rw [← hH1]; rfl
  have k1 : Keep (all H) H H1 := by rw [← hH1]; exact push_keep.trans (push_keep.mono (upA push_keep))
  have g1 : H1.get H.n = some ⟨SC 0, 1, true⟩ := by rw [← hH1, push_lt (by simp [push_n])]; exact push_self
  have g2 : H1.get (H.n + 1) = some ⟨SC 0, 1, true⟩ := by rw [← hH1]; exact push_self
  have hz : SC ((List.range (x - x)).foldl (fun s k => s ||| 2 ^ (x + k)) 0) = SC 0 := by rw [Nat.sub_self]; rfl
  have hcv : ∀ H : Heap, cvI .i64 (.int .u8 (x : Int)) H = some (.int .i64 (x : Int), H) := fun H => by
    simp only [cvI]; rw [wrap_i64 (by omega) (by omega)]
  obtain ⟨H', c1, k2⟩ := sspan_loop (E := E) (b4 := H.n) (b5 := H.n + 1) (x := x) (y := y) (by omega) hx hy (y + 1 - x) x H1 (by omega) (by omega) (by rw [hz]; exact g2) g1 (by omega)
  refine ⟨H', Ev.enter (fun n => f33_eq hE n _ _ _) ?_, k1.trans (k2.mono fun b hb => by have : b < H.n := hb; exact ⟨by omega, by omega⟩)⟩
  simp only [f33]
  rw [SC_zero]
  simp only [ruA, newV_box (SC_one _), push_n, hH1, hcv]
  exact Ev.loop c1
end
end Go.Eng

set_option linter.unusedVariables false
set_option linter.unusedSimpArgs false
set_option linter.unusedSectionVars false
set_option maxRecDepth 100000
namespace Go.Eng
open Go Go.Proofs

theorem wpOps_prefix {P : Program} {gl : Bool} {C : CallF} {N : Nat} {Q : Exit → Act → World → Prop} (hC : CSound P gl C) (all : List Oper) (n : Nat) : ∀ (l : List Oper) (k : Nat), (∀ j, j < l.length → l[j]? = all[k + j]?) → ∀ {m : Mp} {env env' : Env} {H H' : Heap} {a : Act} {w : World},
    aops P C N all l env H = some (env', H') → GOK P gl m → ERel m env a → HRel m H w → MLow m H.n → (l.all fun o => o.op.operands.toList.all (okOpd P gl)) = true → a.tmps.size = N →
    (∀ m' a' w', ERel m' env' a' → Step m H w m' H' w' → a'.tmps.size = N → a'.defers = a.defers → wpOps P all.toArray Q (List.range' (k + l.length) n) a' w') → wpOps P all.toArray Q (List.range' k (l.length + n)) a w
  | [], k, hl, m, env, env', H, H', a, w, h, hg, hE, hr, hlow, hok, hN, hq => by
    simp only [aops, Option.some.injEq, Prod.mk.injEq] at h
    obtain ⟨rfl, rfl⟩ := h
    simpa using hq m a w hE (Step.refl hr) hN rfl
  | o :: l, k, hl, m, env, env', H, H', a, w, h, hg, hE, hr, hlow, hok, hN, hq => by
    have h0 : all.toArray[k]? = some o := by have := hl 0 (by simp); simpa using this.symm
    have hl' : ∀ j, j < l.length → l[j]? = all[k + 1 + j]? := fun j hj => by have := hl (j + 1) (by simpa using hj); simpa [Nat.add_assoc, Nat.add_comm 1 j] using this
    have e1 : (o :: l).length + n = (l.length + n) + 1 := by simp; omega
    have e2 : k + (o :: l).length = k + 1 + l.length := by simp; omega
    rw [e2] at hq
    simp only [List.all_cons, Bool.and_eq_true] at hok
    simp only [aops] at h
    simp only [e1, List.range'_succ, wpOps, h0]
    rw [wanted_sound hE]
    split at h
    · rename_i hw
      rw [if_pos hw]
      left
      split at h
      case h_2 => cases h
      rename_i v H1 hv
      refine Oper.wp_mono (K := fun a' w' => ∃ m' v', a' = a.put o.dst v' ∧ VRel m' v v' ∧ Step m H w m' H1 w') (fun a' w' ⟨m', v', ha, hvr, hs⟩ => ?_) (aop_sound hC hg hE hr hlow hok.1 hv)
      subst ha
      have hle := hs.mle hlow
      exact wpOps_prefix hC all n l (k + 1) hl' h (hg.mono hle) (ERel.put (hE.mono hle) hvr hN) hs.rel (hs.keepLow hlow) hok.2 (by rw [put_size]; exact hN)
        (fun m2 a2 w2 h1 h2 h3 h4 => hq m2 a2 w2 h1 (hs.trans h2) h3 (by rw [h4, put_defers]))
    · rename_i hw
      rw [if_neg hw]
      exact wpOps_prefix hC all n l (k + 1) hl' h hg (ERel.put hE VRel.undef hN) hr hlow hok.2 (by rw [put_size]; exact hN) (fun m2 a2 w2 h1 h2 h3 h4 => hq m2 a2 w2 h1 h2 h3 (by rw [h4, put_defers]))
def gFail (args : List Value) (H : Heap) : Option (Value × Heap) :=
  match args with
  | [.pointer (some ⟨b, o, none⟩)] =>
    match ldC (ptr b (o + 1)) H with
    | some (.int .i64 n, _) => some (.iface 79 (.int .i64 n), H)
    | _ => none
  | _ => none
def EPf : Ext := fun f => if f = 47 then some gFail else none
noncomputable def failOps : List Oper := match (Tryd.f47.body).getD .skip with | .region _ ops _ => ops.toList | _ => []
theorem fail_body : Tryd.f47.body = some (.region 0 failOps.toArray false) := by kernel_rfl
theorem fail_head {α : Type} (S : Seam α) (C : CallF) (x0 : Value) (H : Heap) (k : Env → Heap → Option α) : aopsK S Tryd.prog C 7 failOps (failOps.take 4) (env0 [x0]) H k =
    S.b (nilC x0 H) fun v1 H1 => S.b (up (fAddr 1 v1) H1) fun v2 H2 => S.b (ldC v2 H2) fun v3 H3 => k (putE 7 (putE 7 (putE 7 (putE 7 (env0 [x0]) (some 2) x0) (some 3) v1) (some 4) v2) (some 5) v3) H3 := by kernel_rfl
theorem fail_4 : failOps.toArray[4]? = some ⟨some 6, .makeInterface 79 (.tmp 5), 20, "regex.go:178", #[{ on := 3, ground := .data }], none⟩ := by kernel_rfl
theorem fail_5 : failOps.toArray[5]? = some ⟨none, .panic (.tmp 6), 0, "regex.go:178", #[{ on := 4, ground := .data }], none⟩ := by kernel_rfl
theorem noC_sound (P : Program) (gl : Bool) : CSound P gl (fun _ _ _ => none) := fun _ _ _ _ _ h => by cases h
theorem ldC_same {x v : Value} {H H' : Heap} (h : ldC x H = some (v, H')) : H' = H := by
  unfold ldC at h
  split at h
  · split at h
    · split at h
      · simp only [Option.some.injEq, Prod.mk.injEq] at h; exact h.2.symm
      · cases h
    · cases h
  · cases h
theorem fail_sound : EPSound Tryd.prog true EPf := by
  intro f g hfg args H v H' h m w args' ha hr hlow hg
  unfold EPf at hfg
  split at hfg
  case isFalse => cases hfg
  rename_i hf
  subst hf
  injection hfg with hfg
  subst hfg
  have hinv : ∃ b o n, args = [ptr b o] ∧ ldC (ptr b (o + 1)) H = some (.int .i64 n, H) ∧ v = .iface 79 (.int .i64 n) ∧ H' = H := by
    unfold gFail at h
    split at h
    · rename_i b o
      split at h
      · rename_i n H1 hl
        simp only [Option.some.injEq, Prod.mk.injEq] at h
        have hH := ldC_same hl
        exact ⟨b, o, n, rfl, by rw [hH] at hl; exact hl, h.1.symm, h.2.symm⟩
      · cases h
    · cases h
  obtain ⟨b, o, n, rfl, hl, rfl, rfl⟩ := hinv
  refine ⟨fun h => (by cases h), fun t u hv => ?_⟩
  injection hv with h1 h2
  subst h1
  subst h2
  refine ⟨rfl, ?_⟩
  have hsz : ({ tmps := args'.toArray ++ Array.replicate (Tryd.f47.ntmps - args'.toArray.size) undef, defers := [] } : Act).tmps.size = 7 := by
    have h1 : args'.length = 1 := by rw [← ha.1]; rfl
    have h2 : Tryd.f47.ntmps = 7 := by kernel_rfl
    simp [h1, h2]
  have hER : ERel m (env0 [ptr b o]) { tmps := args'.toArray ++ Array.replicate (Tryd.f47.ntmps - args'.toArray.size) undef, defers := [] } := by
    intro t
    simp only [env0, Array.getD_eq_getD_getElem?, List.getD_eq_getElem?_getD]
    by_cases ht : t < args'.length
    · have ht' : t < [ptr b o].length := by rw [ha.1]; exact ht
      rw [Array.getElem?_append_left (by simpa using ht)]
      simp only [List.getElem?_toArray, List.getElem?_eq_getElem ht, List.getElem?_eq_getElem ht', Option.getD_some]
      exact ha.2 t _ _ (List.getElem?_eq_getElem ht') (List.getElem?_eq_getElem ht)
    · have ht' : ¬ t < [ptr b o].length := by rw [ha.1]; exact ht
      rw [List.getElem?_eq_none (Nat.le_of_not_lt ht'), Array.getElem?_append_right (by simpa using Nat.le_of_not_lt ht)]
      have : ((Array.replicate (Tryd.f47.ntmps - args'.toArray.size) undef)[t - args'.toArray.size]?).getD undef = undef := by
        rw [Array.getElem?_replicate]; split <;> rfl
      rw [this]
      exact VRel.undef
  have hrun : aops Tryd.prog (fun _ _ _ => none) 7 failOps (failOps.take 4) (env0 [ptr b o]) H' = some (putE 7 (putE 7 (putE 7 (putE 7 (env0 [ptr b o]) (some 2) (ptr b o)) (some 3) (ptr b o)) (some 4) (ptr b (o + 1))) (some 5) (.int .i64 n), H') := by
    have h1 := fail_head (α := Env × Heap) real (fun _ _ _ => none) (ptr b o) H' (fun env H => some (env, H))
    rw [aopsK_eq] at h1
    simp only [ruA, ruB, ruC, ruE, ruD, lenStr, Int.reduceBEq, Int.reduceBNe, hl] at h1
    have hb : ∀ x : Option (Env × Heap), (x.bind fun r => some (r.1, r.2)) = x := fun x => by cases x <;> rfl
    rw [hb] at h1
    exact h1
  refine calls_of_wp Tryd.func47 fail_body (wp_region ?_)
  have h6 : List.range failOps.toArray.size = List.range' 0 ((failOps.take 4).length + 2) := by kernel_rfl
  rw [h6]
  refine wpOps_prefix (N := 7) (noC_sound _ true) failOps 2 (failOps.take 4) 0 (fun j hj => by
    have : j < 4 := hj
    rw [List.getElem?_take_of_lt this, Nat.zero_add]) hrun hg hER hr hlow (by kernel_rfl) hsz (fun m1 a1 w1 h1 h2 h3 h4 => ?_)
  have e5 : a1.tmps.getD 5 undef = .int .i64 n := by
    have := h1 5
    have hv5 : (putE 7 (putE 7 (putE 7 (putE 7 (env0 [ptr b o]) (some 2) (ptr b o)) (some 3) (ptr b o)) (some 4) (ptr b (o + 1))) (some 5) (.int .i64 n)) 5 = .int .i64 n := rfl
    rw [hv5] at this
    generalize a1.tmps.getD 5 undef = y at this
    cases this with
    | flat h => rfl
  have e4' : (0 + (failOps.take 4).length) = 4 := by kernel_rfl
  rw [e4']
  show wpOps _ _ _ [4, 5] a1 w1
  have hu : Tryd.prog.underlying 79 = some (.int .i64) := by kernel_rfl
  simp only [wpOps, fail_4, fail_5, Region.wanted, if_true]
  left
  unfold Oper.wp
  have r4 : (execOp a1.eval ⟨some 6, .makeInterface 79 (.tmp 5), 20, "regex.go:178", #[{ on := 3, ground := .data }], none⟩).run Tryd.prog w1 = .ok (.value (.iface 79 (.int .i64 n))) w1 := by
    simp [execOp, Instr.makeInterface, Act.eval, e5, underlying, hu]
  rw [r4]
  show _ ∨ _
  left
  have e6 : (a1.put (some 6) (.iface 79 (.int .i64 n))).tmps.getD 6 undef = .iface 79 (.int .i64 n) := by
    simp [Act.put, Array.getD_eq_getD_getElem?, h3]
  have r5 : (execOp (a1.put (some 6) (.iface 79 (.int .i64 n))).eval ⟨none, .panic (.tmp 6), 0, "regex.go:178", #[{ on := 4, ground := .data }], none⟩).run Tryd.prog w1 = .halt (.panic (.iface 79 (.int .i64 n))) w1 := by
    simp [execOp, Instr.panic, Act.eval, e6, goPanic]
  show Oper.upon _ _ (a1.put (some 6) (.iface 79 (.int .i64 n))) _ _ (Sem.run _ (execOp (a1.put (some 6) (.iface 79 (.int .i64 n))).eval _) _)
  rw [r5]
  simp only [Oper.upon, bodyPost]
  exact ⟨by rw [put_defers, h4], m1, rfl, h2⟩
end Go.Eng

set_option linter.unusedVariables false
set_option linter.unusedSimpArgs false
set_option linter.unusedSectionVars false
set_option maxRecDepth 100000
namespace Go.Eng
open Go Go.Proofs

def panF (f : FuncId) : Bool := [47, 103, 100, 99, 94, 83, 66, 46].contains f
noncomputable abbrev AP (n : Nat) : CallF := acallP Tryd.prog true noExt EPf panF n
abbrev ClF (f : FuncId) (args : List Value) (H : Heap) (v : Value) (H' : Heap) : Prop := ClQ Tryd.prog true noExt EPf panF f args H v H'
theorem f103_eqP (n : Nat) (x0 : Value) (H : Heap) : AP (n + 1) 103 [x0] H = f103 realP (AP n) n x0 H :=
  (acallP_eq (N := 113) (by kernel_rfl) Tryd.func103 (by kernel_rfl) (by kernel_rfl) rfl (by kernel_rfl) (by kernel_rfl) (by kernel_rfl)).trans (f103_main realP _ n x0 H)
theorem f100_eqP (n : Nat) (x0 x1 : Value) (H : Heap) : AP (n + 1) 100 [x0, x1] H = f100 realP (AP n) n x0 x1 H :=
  (acallP_eq (N := 76) (by kernel_rfl) Tryd.func100 (by kernel_rfl) (by kernel_rfl) rfl (by kernel_rfl) (by kernel_rfl) (by kernel_rfl)).trans (f100_main realP _ n x0 x1 H)
theorem f99_eqP (n : Nat) (x0 : Value) (H : Heap) : AP (n + 1) 99 [x0] H = f99 realP (AP n) n x0 H :=
  (acallP_eq (N := 46) (by kernel_rfl) Tryd.func99 (by kernel_rfl) (by kernel_rfl) rfl (by kernel_rfl) (by kernel_rfl) (by kernel_rfl)).trans (f99_main realP _ n x0 H)
theorem f94_eqP (n : Nat) (x0 : Value) (H : Heap) : AP (n + 1) 94 [x0] H = f94 realP (AP n) n x0 H :=
  (acallP_eq (N := 49) (by kernel_rfl) Tryd.func94 (by kernel_rfl) (by kernel_rfl) rfl (by kernel_rfl) (by kernel_rfl) (by kernel_rfl)).trans (f94_main realP _ n x0 H)
theorem f83_eqP (n : Nat) (x0 : Value) (H : Heap) : AP (n + 1) 83 [x0] H = f83 realP (AP n) n x0 H :=
  (acallP_eq (N := 67) (by kernel_rfl) Tryd.func83 (by kernel_rfl) (by kernel_rfl) rfl (by kernel_rfl) (by kernel_rfl) (by kernel_rfl)).trans (f83_main realP _ n x0 H)
theorem f66_eqP (n : Nat) (x0 : Value) (H : Heap) : AP (n + 1) 66 [x0] H = f66 realP (AP n) n x0 H :=
  (acallP_eq (N := 47) (by kernel_rfl) Tryd.func66 (by kernel_rfl) (by kernel_rfl) rfl (by kernel_rfl) (by kernel_rfl) (by kernel_rfl)).trans (f66_main realP _ n x0 H)
theorem f46_eqP (n : Nat) (x0 : Value) (H : Heap) : AP (n + 1) 46 [x0] H = f46 realP (AP n) n x0 H :=
  (acallP_eq (N := 17) (by kernel_rfl) Tryd.func46 (by kernel_rfl) (by kernel_rfl) rfl (by kernel_rfl) (by kernel_rfl) (by kernel_rfl)).trans (f46_main realP _ n x0 H)

def TB (H : Heap) (b : Nat) (T : List UInt8) (at_ : Nat) (v : Value) : Prop := b < H.n ∧ H.get b = some ⟨[.string (bs T), .int .i64 (at_ : Int), v], 1, true⟩
def put (H : Heap) (b : Nat) (T : List UInt8) (at_ : Nat) (v : Value) : Heap := H.upd b (some ⟨[.string (bs T), .int .i64 (at_ : Int), v], 1, true⟩)
def thrown (at_ : Nat) : Value := .iface 79 (.int .i64 (at_ : Int))
section
variable {H : Heap} {b : Nat} {T : List UInt8} {at_ : Nat} {v : Value} {E : Ext}
theorem TB.ld0 (h : TB H b T at_ v) : ldC (ptr b 0) H = some (.string (bs T), H) := ldG h.2 rfl
theorem TB.ld1 (h : TB H b T at_ v) : ldC (ptr b 1) H = some (.int .i64 (at_ : Int), H) := ldG h.2 rfl
theorem TB.ld2' (h : TB H b T at_ v) : ldC (ptr b 2) H = some (v, H) := ldG h.2 rfl
theorem TB.st1 (h : TB H b T at_ v) (n : Nat) : stV 1 (ptr b 1) (.int .i64 (n : Int)) H = some (undef, put H b T n v) := by
  rw [stV1_box h.2 (by show 1 < 3; omega) rfl rfl]; rfl
theorem TB.put (h : TB H b T at_ v) (n : Nat) : TB (put H b T n v) b T n v := ⟨h.1, upd_self⟩
theorem put_keep (n : Nat) : Keep (But H b) H (put H b T n v) := upd_but
theorem TB.keep (h : TB H b T at_ v) {H' : Heap} {R : Nat → Prop} (k : Keep R H H') (hR : R b) : TB H' b T at_ v := ⟨Nat.lt_of_lt_of_le h.1 k.1, by rw [k.2 b hR]; exact h.2⟩
theorem fail_cl (h : TB H b T at_ v) : ClF 47 [ptr b 0] H (thrown at_) H := by
  refine ⟨1, fun n m hn _ => ?_⟩
  obtain ⟨n, rfl⟩ : ∃ k, n = k + 1 := ⟨n - 1, by omega⟩
  show acallP Tryd.prog true noExt EPf panF (n + 1) 47 _ _ = _
  rw [acallP_ext (g := gFail) (by kernel_rfl) Tryd.func47 (by kernel_rfl) fail_body rfl]
  simp only [gFail, Nat.zero_add, h.ld1, thrown]
theorem U_len' (l : List UInt8) : (U l).length = l.length := U_len l
theorem U_drop_end (h : T.length ≤ at_) : (U T).drop at_ = [] := List.drop_eq_nil_of_le (by rw [U_len']; exact h)
theorem U_drop_at {x : UInt8} (h : T[at_]? = some x) : (U T).drop at_ = x.toNat :: (U T).drop (at_ + 1) := by
  obtain ⟨hl, he⟩ := List.getElem?_eq_some_iff.1 h
  rw [List.drop_eq_getElem_cons (by rw [U_len']; exact hl)]
  congr 1
  simp [U, he]
theorem at_some (h : at_ < T.length) : ∃ x, T[at_]? = some x := ⟨T[at_], List.getElem?_eq_getElem h⟩
theorem sees_ok (hE : E 82 = none) (h : TB H b T at_ v) (hat : at_ ≤ T.length) (c : Nat) : ClP Tryd.prog true E 82 [ptr b 0, .int .u8 (c : Int)] H (.bool (decide (((U T).drop at_).head? = some c))) H := by
  refine Ev.enter (fun n => f82_eq hE n _ _ _) ?_
  by_cases hl : at_ < T.length
  · obtain ⟨x, hx⟩ := at_some hl
    have e : (decide (((U T).drop at_).head? = some c)) = ((x.toNat : Int) == (c : Int)) := by
      rw [U_drop_at hx, k_eq']; simp
    rw [e]
    simp only [f82, ruA, ruB, ruC, ruE, ruD, lenStr, Int.reduceBEq, Int.reduceBNe, h.ld0, h.ld1, bs_size, idx_lt hl, bs_idx hx]
    exact Ev.pure _
  · have e : (decide (((U T).drop at_).head? = some c)) = false := by rw [U_drop_end (by omega)]; simp
    rw [e]
    simp only [f82, ruA, ruB, ruC, ruE, ruD, lenStr, Int.reduceBEq, Int.reduceBNe, h.ld0, h.ld1, bs_size, idx_ge (show T.length ≤ at_ by omega), Bool.or_true]
    exact Ev.pure _
theorem takes_yes (hE : E 67 = none) (hE2 : E 82 = none) (h : TB H b T at_ v) (hat : at_ ≤ T.length) (hl : T.length < 1000000) {c : Nat} (hc : ((U T).drop at_).head? = some c) : ClP Tryd.prog true E 67 [ptr b 0, .int .u8 (c : Int)] H (.bool true) (put H b T (at_ + 1) v) := by
  refine Ev.enter (fun n => f67_eq hE n _ _ _) ?_
  have hs := sees_ok hE2 h hat c
  rw [decide_eq_true hc] at hs
  simp only [f67, ruA]
  refine Ev.callC hs ?_
  simp only [ruA, ruB, ruC, ruE, ruD, lenStr, Int.reduceBEq, Int.reduceBNe, h.ld1, idx_up (show at_ < 9223372036854775807 by omega), h.st1]
  exact Ev.pure _
theorem takes_no (hE : E 67 = none) (hE2 : E 82 = none) (h : TB H b T at_ v) (hat : at_ ≤ T.length) {c : Nat} (hc : ((U T).drop at_).head? ≠ some c) : ClP Tryd.prog true E 67 [ptr b 0, .int .u8 (c : Int)] H (.bool false) H := by
  refine Ev.enter (fun n => f67_eq hE n _ _ _) ?_
  have hs := sees_ok hE2 h hat c
  rw [decide_eq_false hc] at hs
  simp only [f67, ruA]
  refine Ev.callC hs ?_
  simp only [ruA, ruB, ruC, ruE, ruD, lenStr, Int.reduceBEq, Int.reduceBNe]
  exact Ev.pure _
end
end Go.Eng

set_option linter.unusedVariables false
set_option linter.unusedSimpArgs false
set_option linter.unusedSectionVars false
set_option maxRecDepth 100000
namespace Go.Eng
open Go Go.Proofs

theorem bs_back (l : List UInt8) : (bs l).data.toList = l := by simp [bs]
def idxOf (l : List UInt8) (c : Nat) : Int := Lib.indexByte l (UInt8.ofNat c)
theorem index_cl {E : Ext} (h89 : E 89 = none) (h98 : E 98 = none) (l : List UInt8) {c : Nat} (hc : c < 256) (H : Heap) : ClP Tryd.prog true E 89 [.string (bs l), .int .u8 (c : Int)] H (.int .i64 (idxOf l c)) H := by
  refine Ev.enter (fun n => f89_eq h89 n _ _ _) ?_
  have h2 : ClP Tryd.prog true E 98 [.string (bs l), .int .u8 (c : Int)] H (.int .i64 (idxOf l c)) H := by
    refine Ev.enter (fun n => f98_eq h98 n _ _ _) ?_
    refine Ev.callC (ClP.extern Tryd.func101 (by kernel_rfl) (by kernel_rfl) (by kernel_rfl) (show idxX _ H = some (.int .i64 (idxOf l c), H) from ?_)) ?_
    · simp only [idxX, bs_back]
      congr 3
    · exact Ev.pure _
  refine Ev.callC h2 ?_
  exact Ev.pure _
def escT : List UInt8 := [40, 41, 91, 93, 124, 42, 43, 63, 46, 92, 47, 94, 45]
def signsT : List UInt8 := [40, 41, 91, 93, 124, 42, 43, 63, 46, 92, 47]
def classT : List UInt8 := [91, 93, 92, 94, 45, 47]
def digT : List UInt8 := [48, 49, 50, 51, 52, 53, 54, 55, 56, 57, 97, 98, 99, 100, 101, 102]
theorem all256' {p : Nat → Bool} (h : (List.range 256).all p = true) {c : Nat} (hc : c < 256) : p c = true := List.all_eq_true.1 h c (List.mem_range.2 hc)
theorem esc_mem {c : Nat} (hc : c < 256) : (0 ≤ idxOf escT c) = (c ∈ escL) := by
  have := all256' (p := fun c => decide (0 ≤ idxOf escT c) == decide (c ∈ escL)) (by kernel_rfl) hc
  simpa using this
theorem signs_mem {c : Nat} (hc : c < 256) : (0 ≤ idxOf signsT c) = (c ∈ signsL) := by
  have := all256' (p := fun c => decide (0 ≤ idxOf signsT c) == decide (c ∈ signsL)) (by kernel_rfl) hc
  simpa using this
theorem class_mem {c : Nat} (hc : c < 256) : (0 ≤ idxOf classT c) = (c ∈ classL) := by
  have := all256' (p := fun c => decide (0 ≤ idxOf classT c) == decide (c ∈ classL)) (by kernel_rfl) hc
  simpa using this
theorem dig_idx {c : Nat} (hc : c < 256) : idxOf digT c = if dgt c < 16 then (dgt c : Int) else -1 := by
  have := all256' (p := fun c => idxOf digT c == if dgt c < 16 then (dgt c : Int) else -1) (by kernel_rfl) hc
  simpa using this
section
variable {b : Nat} {T : List UInt8} {v : Value}
def RdE (R : Nat → Nat → Option (Value × Heap)) (H0 : Heap) (b : Nat) (T : List UInt8) (v : Value) (r : Rd Nat) (val : Nat → Value) : Prop :=
  match r with
  | .ok (c, r') => ∃ at' H', at' ≤ T.length ∧ r' = (U T).drop at' ∧ Ev R (val c, H') ∧ Keep (But H0 b) H0 H' ∧ TB H' b T at' v
  | .error e => ∃ at' H', at' ≤ T.length ∧ e = (U T).drop at' ∧ Ev R (thrown at', H') ∧ Keep (But H0 b) H0 H'
theorem RdE.imp {R B : Nat → Nat → Option (Value × Heap)} {H0 : Heap} {r : Rd Nat} {val : Nat → Value} (h : RdE B H0 b T v r val) (hi : ∀ x, Ev B x → Ev R x) : RdE R H0 b T v r val := by
  cases r with
  | ok p => obtain ⟨a, H', h1, h2, h3, h4⟩ := h; exact ⟨a, H', h1, h2, hi _ h3, h4⟩
  | error e => obtain ⟨a, H', h1, h2, h3, h4⟩ := h; exact ⟨a, H', h1, h2, hi _ h3, h4⟩
theorem RdE.base {R : Nat → Nat → Option (Value × Heap)} {H0 H : Heap} {r : Rd Nat} {val : Nat → Value} (h : RdE R H b T v r val) (hk : Keep (But H0 b) H0 H) : RdE R H0 b T v r val := by
  cases r with
  | ok p => obtain ⟨a, H', h1, h2, h3, h4, h5⟩ := h; exact ⟨a, H', h1, h2, h3, hk.trans (h4.mono (but_up hk.1)), h5⟩
  | error e => obtain ⟨a, H', h1, h2, h3, h4⟩ := h; exact ⟨a, H', h1, h2, h3, hk.trans (h4.mono (but_up hk.1))⟩
theorem callQ_of {f : FuncId} {args : List Value} {H : Heap} {w : Value} {H' : Heap} {k : Nat → Nat → Value → Heap → Option (Value × Heap)} {r : Value × Heap} (h : ClP Tryd.prog true noExt f args H w H') (hp : panF f = false) (hv : isP w = false) (h' : Ev (fun n m => k n m w H') r) : Ev (fun n m => bndP (AP n f args H) (k n m)) r :=
  Ev.callQ (ClQ.of h hp) hv h'
variable (hT : T.length ≤ 1024)
include hT
theorem hex_round {H : Heap} {at_ n i : Nat} (h : TB H b T at_ v) (hat : at_ ≤ T.length) (hi : i < 2) (hn : n < 16 ^ i) :
    (∀ e, hex1 ((U T).drop at_) = .error e → e = (U T).drop at_ ∧ Ev (fun a m => f103_L1 realP (AP a) a m (ptr b 0) (.int .i64 (n : Int)) (.int .i64 (i : Int)) H) (thrown at_, H)) ∧
    (∀ d r, hex1 ((U T).drop at_) = .ok (d, r) → d < 16 ∧ at_ < T.length ∧ r = (U T).drop (at_ + 1) ∧ ∀ x, Ev (fun a m => f103_L1 realP (AP a) a m (ptr b 0) (.int .i64 ((16 * n + d : Nat) : Int)) (.int .i64 ((i + 1 : Nat) : Int)) (put H b T (at_ + 1) v)) x →
      Ev (fun a m => f103_L1 realP (AP a) a m (ptr b 0) (.int .i64 (n : Int)) (.int .i64 (i : Int)) H) x) := by
  have hn2 : n < 16 := Nat.lt_of_lt_of_le hn (by have : i = 0 ∨ i = 1 := by omega
                                                 rcases this with rfl | rfl <;> decide)
  have e2 : ((i : Int) < 2) = True := eq_true (by omega)
  by_cases hl : at_ < T.length
  · obtain ⟨x, hx⟩ := at_some hl
    have hc := x.toNat_lt
    have hix := index_cl (E := noExt) rfl rfl digT hc H
    rw [dig_idx hc] at hix
    rw [U_drop_at hx]
    by_cases hd : dgt x.toNat < 16
    · rw [if_pos hd] at hix
      refine ⟨fun e he => ?_, fun d r he => ?_⟩
      · simp only [hex1, if_pos hd] at he; cases he
      · simp only [hex1, if_pos hd, Except.ok.injEq, Prod.mk.injEq] at he
        obtain ⟨rfl, rfl⟩ := he
        refine ⟨hd, hl, rfl, fun y hy => ?_⟩
        refine Ev.step (fun n m => f103_L1.eq_2 _ _ _ _ _ _ _ m) ?_
        have m1 : IntKind.i64.wrap ((n : Int) * 16) = ((16 * n : Nat) : Int) := by rw [wrap_i64 (by omega) (by omega)]; omega
        have m2 : IntKind.i64.wrap (((16 * n : Nat) : Int) + (dgt x.toNat : Int)) = ((16 * n + dgt x.toNat : Nat) : Int) := by rw [wrap_i64 (by omega) (by omega)]; omega
        have e3 : ((dgt x.toNat : Int) < 0) = False := eq_false (by omega)
        simp only [ruA, ruB, ruC, ruE, ruD, lenStr, Int.reduceBEq, Int.reduceBNe, ruP, e2, h.ld0, h.ld1, bs_size, idx_lt hl, bs_idx hx]
        refine callQ_of hix (by kernel_rfl) rfl ?_
        simp only [f103_J2, f103_J1, ruA, ruB, ruC, ruE, ruD, lenStr, Int.reduceBEq, Int.reduceBNe, ruP, e3, b_mul, m1, m2, h.ld1, idx_up (show at_ < 9223372036854775807 by omega), h.st1, idx_up (show i < 9223372036854775807 by omega)]
        exact hy
    · rw [if_neg hd] at hix
      refine ⟨fun e he => ?_, fun d r he => ?_⟩
      · simp only [hex1, if_neg hd, Except.error.injEq] at he
        refine ⟨he.symm, ?_⟩
        refine Ev.step (fun n m => f103_L1.eq_2 _ _ _ _ _ _ _ m) ?_
        have e3 : ((-1 : Int) < 0) = True := by simp
        simp only [ruA, ruB, ruC, ruE, ruD, lenStr, Int.reduceBEq, Int.reduceBNe, ruP, e2, h.ld0, h.ld1, bs_size, idx_lt hl, bs_idx hx]
        refine callQ_of hix (by kernel_rfl) rfl ?_
        simp only [f103_J2, ruA, ruB, ruC, ruE, ruD, lenStr, Int.reduceBEq, Int.reduceBNe, ruP, e3]
        exact Ev.panQ (fail_cl h) rfl
      · simp only [hex1, if_neg hd] at he; cases he
  · have e0 : (U T).drop at_ = [] := U_drop_end (by omega)
    rw [e0]
    refine ⟨fun e he => ?_, fun d r he => ?_⟩
    · simp only [hex1, Except.error.injEq] at he
      refine ⟨he.symm, ?_⟩
      refine Ev.step (fun n m => f103_L1.eq_2 _ _ _ _ _ _ _ m) ?_
      have e3 : ((-1 : Int) < 0) = True := by simp
      simp only [ruA, ruB, ruC, ruE, ruD, lenStr, Int.reduceBEq, Int.reduceBNe, ruP, e2, h.ld0, h.ld1, bs_size, idx_ge (show T.length ≤ at_ by omega), f103_J2, e3]
      exact Ev.panQ (fail_cl h) rfl
    · simp only [hex1] at he; cases he
theorem hex_ok {H : Heap} {at_ : Nat} (h : TB H b T at_ v) (hat : at_ ≤ T.length) :
    RdE (fun a m => f103_L1 realP (AP a) a m (ptr b 0) (.int .i64 0) (.int .i64 0) H) H b T v (hex2 ((U T).drop at_)) fun c => .int .u8 (c : Int) := by
  obtain ⟨q1, q2⟩ := hex_round hT h hat (n := 0) (i := 0) (by omega) (by decide)
  unfold hex2
  cases h1 : hex1 ((U T).drop at_) with
  | error e =>
    obtain ⟨p1, p2⟩ := q1 e h1
    exact ⟨at_, H, hat, p1, p2, Keep.refl _ _⟩
  | ok p =>
    obtain ⟨d1, r1⟩ := p
    obtain ⟨hd1, hl1, rfl, st1⟩ := q2 d1 r1 h1
    have h2 : TB (put H b T (at_ + 1) v) b T (at_ + 1) v := h.put _
    obtain ⟨q3, q4⟩ := hex_round hT h2 (by omega) (n := 16 * 0 + d1) (i := 1) (by omega) (by omega)
    simp only
    cases h3 : hex1 ((U T).drop (at_ + 1)) with
    | error e =>
      obtain ⟨p1, p2⟩ := q3 e h3
      exact ⟨at_ + 1, _, by omega, p1, st1 _ p2, put_keep _⟩
    | ok p =>
      obtain ⟨d2, r2⟩ := p
      obtain ⟨hd2, hl2, rfl, st2⟩ := q4 d2 r2 h3
      refine ⟨at_ + 1 + 1, _, by omega, rfl, st1 _ (st2 _ ?_), (put_keep (at_ + 1)).trans ((put_keep (at_ + 1 + 1)).mono fun x hx => hx), h2.put _⟩
      refine Ev.step (fun n m => f103_L1.eq_2 _ _ _ _ _ _ _ m) ?_
      have e2 : (((1 + 1 : Nat) : Int) < 2) = False := by simp
      have cv : ∀ H : Heap, cvI .u8 (.int .i64 ((16 * (16 * 0 + d1) + d2 : Nat) : Int)) H = some (.int .u8 ((16 * d1 + d2 : Nat) : Int), H) := fun H => by
        rw [cvI_u8]; congr 3; omega
      simp only [ruA, ruB, ruC, ruE, ruD, lenStr, Int.reduceBEq, Int.reduceBNe, ruP, e2, cv]
      exact Ev.pure _
end
end Go.Eng
