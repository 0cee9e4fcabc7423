/- The reference's digest; ShaDigests' plain law. -/
import Derived.Test.YtmajmmknpajcgaaUB
import Derived.Test.YtmajmmknpajcgaaEnhDD
set_option linter.unusedVariables false
set_option linter.unusedSimpArgs false
set_option linter.unusedSectionVars false
set_option maxRecDepth 100000
namespace Go.Eng
open Go Go.Proofs

/-! ### begin -/
def fillW (l : List UInt32) (i : Nat) : List UInt32 := l.take i ++ List.replicate (8 - i) 0
theorem fillW_len {l : List UInt32} (hl : l.length = 8) {i : Nat} (h : i ≤ 8) : (fillW l i).length = 8 := by simp [fillW, hl]; omega
theorem fillW_set {l : List UInt32} (hl : l.length = 8) {i : Nat} (h : i < 8) : (fillW l i).set i (l.getD i 0) = fillW l (i + 1) := by
  have h1 : (l.take i).length = i := by rw [List.length_take, hl]; omega
  obtain ⟨k, hk⟩ : ∃ k, 8 - i = k + 1 := ⟨7 - i, by omega⟩
  have hx : l[i]? = some (l.getD i 0) := by rw [List.getD_eq_getElem?_getD, List.getElem?_eq_getElem (by omega)]; rfl
  rw [fillW, fillW, List.set_append_right (h := by omega), h1, Nat.sub_self, hk, List.replicate_succ, List.set_cons_zero, show 8 - (i + 1) = k by omega, List.take_add_one, hx]
  simp
section
variable {b0 b1 : Nat} (hne : b0 ≠ b1) {l : List UInt32} (hl : l.length = 8) {R : Nat → Prop} (hR0 : ¬ R b0) (hR1 : ¬ R b1)
include hne hl hR0 hR1
theorem begin_loop {v : Value} : ∀ (k i : Nat) (H : Heap), i + k = 8 → H.get b0 = some ⟨WC (List.replicate 8 0), 1, true⟩ → H.get b1 = some ⟨WC (fillW l i), 1, true⟩ → Sl R H 1 v 8 (WC l) →
    ∃ H', Ev (fun n m => f39_L0 real (AC n) n m (ptr b0 0) (ptr b1 0) v (.int .i64 (i : Int)) H) (.agg (WC l).toArray, H') ∧ Keep (fun b => b ≠ b0 ∧ b ≠ b1) H H' := by
  intro k
  induction k with
  | zero =>
    intro i H hi h0 h1 hs
    obtain rfl : i = 8 := by omega
    have hf : fillW l 8 = l := by rw [fillW, ← hl, List.take_length]; simp
    rw [hf] at h1
    have hW : (WC l).length = 8 := by rw [WC_len, hl]
    refine ⟨H.upd b0 (some ⟨WC l, 1, true⟩), Ev.step (fun n m => f39_L0.eq_2 _ _ _ _ _ _ _ _ m) ?_, Keep.upd fun h => h.1 rfl⟩
    have e : (((8 : Nat) : Int) < 8) = False := by simp
    simp only [ruA, ruB, ruC, ruE, ruD, lenStr, Int.reduceBEq, Int.reduceBNe, e, ldAG h1 hW, stG h0 (by rfl) hW (WC_one _), ldAG (H := H.upd b0 (some ⟨WC l, 1, true⟩)) upd_self hW, Option.map_some, resM1, one1]
    exact Ev.pure _
  | succ k ih =>
    intro i H hi h0 h1 hs
    obtain ⟨H1, hH1⟩ : ∃ H1, H.upd b1 (some ⟨WC (fillW l (i + 1)), 1, true⟩) = H1 := ⟨_, rfl⟩
    have k0 : Keep (fun b => b ≠ b0 ∧ b ≠ b1) H H1 := by rw [← hH1]; exact Keep.upd fun h => h.2 rfl
    have kR : Keep R H H1 := by rw [← hH1]; exact Keep.upd fun h => hR1 h
    obtain ⟨H', c1, k1⟩ := ih (i + 1) H1 (by omega) (by rw [← hH1, upd_ne hne]; exact h0) (by rw [← hH1]; exact upd_self) (hs.keep kR)
    refine ⟨H', Ev.step (fun n m => f39_L0.eq_2 _ _ _ _ _ _ _ _ m) ?_, k0.trans k1⟩
    have e : ((i : Int) < 8) = True := eq_true (by omega)
    have hx : l[i]? = some (l.getD i 0) := by rw [List.getD_eq_getElem?_getD, List.getElem?_eq_getElem (by omega)]; rfl
    obtain ⟨p, p1, p2⟩ := hs.at1 (WC_at hx)
    have st : stV 1 (ptr b1 i) (iv (l.getD i 0)) H = some (undef, H1) := by
      rw [stV1_box h1 (by rw [WC_len, fillW_len hl (by omega)]; omega) iv_cells iv_one, WC_set, fillW_set hl (by omega), hH1]
    simp only [ruA, ruB, ruC, ruE, ruD, lenStr, Int.reduceBEq, Int.reduceBNe, e, p1, p2, iA (show i < 8 by omega), st, idx_up (show i < 9223372036854775807 by omega)]
    exact c1
end
theorem rbegin_ok (H : Heap) : ∃ H', Cl 39 [] H (.agg (WC h0.l).toArray) H' ∧ Keep (all H) H H' := by
  obtain ⟨H1, hH1⟩ : ∃ H1, (H.push ⟨WC (List.replicate 8 0), 1, true⟩).push ⟨WC (List.replicate 8 0), 1, true⟩ = H1 := ⟨_, rfl⟩
  have n1 : H1.n = H.n + 2 := by rw [← hH1]; rfl
  have k1 : Keep (all H) H H1 := by rw [← hH1]; exact push_keep.trans (push_keep.mono (upA push_keep))
  have g0 : H1.get H.n = some ⟨WC (List.replicate 8 0), 1, true⟩ := by rw [← hH1, push_lt (by simp [push_n])]; exact push_self
  have g1 : H1.get (H.n + 1) = some ⟨WC (List.replicate 8 0), 1, true⟩ := by rw [← hH1]; exact push_self
  obtain ⟨v, H2, c2, k2, a2⟩ := rts_ok (p := 2) (many := 8) (.inl rfl) (by omega) rts2 H1
  have n2 := k2.1
  have s2 : Sl (fun b => b ≠ H.n ∧ b ≠ H.n + 1) H2 1 v h0.l.length (WC h0.l) := a2.read fun b hb _ => by
    have : ¬ b < H1.n := hb
    exact ⟨by omega, by omega⟩
  obtain ⟨H3, c3, k3⟩ := begin_loop (b0 := H.n) (b1 := H.n + 1) (by omega) (l := h0.l) rfl (R := fun b => b ≠ H.n ∧ b ≠ H.n + 1) (fun h => h.1 rfl) (fun h => h.2 rfl) 8 0 H2 (by omega)
    (by rw [k2.2 _ (show H.n < H1.n by omega)]; exact g0) (by rw [k2.2 _ (show H.n + 1 < H1.n by omega)]; exact g1) s2
  refine ⟨H3, Ev.enter (fun n => f39_eq rfl n _) ?_, k1.trans ((k2.mono (upA k1)).trans (k3.mono fun b hb => by have : b < H.n := hb; exact ⟨by omega, by omega⟩))⟩
  simp only [f39]
  rw [zero8]
  simp only [ruA, newV_box (WC_one _), push_n, hH1]
  refine Ev.callC c2 ?_
  exact Ev.loop c3
/-! ### pad -/
theorem rbyte_app {H0 H : Heap} {n : Nat} {v : Value} {l : List Nat} {x : Nat} (hK : Keep (all H0) H0 H) (h : Acc (all H0) H 1 v n (B l)) (hn : n ≤ 1000000000000) :
    ∃ v' H', bldS 1 1 [.int .u8 0] [(0, 1, .int .u8 (x : Int))] H = some (.slice (some ⟨H.n, 0, none⟩) 1 1, H.push ⟨B [x], 1, true⟩) ∧ Eng.app 1 1 v (.slice (some ⟨H.n, 0, none⟩) 1 1) (H.push ⟨B [x], 1, true⟩) = some (v', H') ∧ Acc (all H0) H' 1 v' (n + 1) (B (l ++ [x])) ∧ Keep (all H0) H0 H' := by
  have hRb : Rb (all H0) H := (Rb.all H0).mono hK.1
  have hadd : addend 1 (.slice (some ⟨H.n, 0, none⟩) 1 1) (H.push ⟨B [x], 1, true⟩) = some (1, B [x]) := addend_push rfl
  have hmb : mostBytes = 140737488355328 := rfl
  obtain ⟨v', H', a1, a2, a3⟩ := (h.push (blk := ⟨B [x], 1, true⟩)).app (by_ := 1) (hRb.mono (by simp [push_n])) hadd rfl (by omega)
  refine ⟨v', H', by rw [bld1 rfl rfl]; rfl, a1, ?_, (hK.trans (Keep.push hRb)).trans a3⟩
  rw [show B (l ++ [x]) = B l ++ B [x] by simp [B]]
  exact a2
theorem i64_shr {P : Program} {t : TypeId} {a k : Nat} {kk : IntKind} (hk : k < 64) : binB P .shr t (.int .i64 (a : Int)) (.int kk (k : Int)) = some (.int .i64 ((a / 2 ^ k : Nat) : Int)) := by
  have e : (min (k : Int).toNat IntKind.i64.bits) = k := by simp only [Int.toNat_natCast]; exact Nat.min_eq_left (by show k ≤ 64; omega)
  rw [b_shr (by omega), e]
  congr 2
  rw [Int.fdiv_eq_ediv_of_nonneg _ (by exact Int.pow_nonneg (by omega))]
  norm_cast
theorem rbytes_loop {H0 : Heap} {v : Nat} : ∀ (k : Nat) (w : Value) (H : Heap), k ≤ 8 → Keep (all H0) H0 H → Acc (all H0) H 1 w (8 - k) (B ((be8 v).take (8 - k))) →
    ∃ w' H', Ev (fun n m => f53_L0 real (AC n) n m (.int .i64 (v : Int)) w (.int .i64 ((k : Int) - 1)) H) (w', H') ∧ Keep (all H0) H0 H' ∧ Acc (all H0) H' 1 w' 8 (B (be8 v)) := by
  intro k
  induction k with
  | zero =>
    intro w H _ hK hA
    refine ⟨w, H, Ev.step (fun n m => f53_L0.eq_2 _ _ _ _ _ _ _ m) ?_, hK, hA⟩
    have e : (((0 : Nat) : Int) - 1 ≥ 0) = False := by simp
    simp only [ruA, ruB, ruC, ruE, ruD, lenStr, Int.reduceBEq, Int.reduceBNe, e]
    exact Ev.pure _
  | succ k ih =>
    intro w H hk hK hA
    obtain ⟨w1, H1, b1, b2, b3, b4⟩ := rbyte_app (x := v / 2 ^ (8 * k) % 256) hK hA (by omega)
    have hl : (be8 v).take (8 - (k + 1)) ++ [v / 2 ^ (8 * k) % 256] = (be8 v).take (8 - k) := by
      rw [show 8 - k = (8 - (k + 1)) + 1 by omega, List.take_add_one, show 8 - (k + 1) = 7 - k by omega, be8_at v (by omega)]; rfl
    rw [hl, show 8 - (k + 1) + 1 = 8 - k by omega] at b3
    obtain ⟨w2, H2, c1, c2, c3⟩ := ih w1 H1 (by omega) b4 b3
    refine ⟨w2, H2, Ev.step (fun n m => f53_L0.eq_2 _ _ _ _ _ _ _ m) ?_, c2, c3⟩
    have ei : (((k + 1 : Nat) : Int) - 1) = (k : Int) := by omega
    have e : ((k : Int) ≥ 0) = True := eq_true (by omega)
    have w1 : IntKind.i64.wrap ((k : Int) - 1) = (k : Int) - 1 := wrap_i64 (by omega) (by omega)
    have cv : ∀ {H : Heap}, cvI .u8 (.int .i64 ((v / 2 ^ (8 * k) : Nat) : Int)) H = some (.int .u8 ((v / 2 ^ (8 * k) % 256 : Nat) : Int), H) := fun {H} => by
      rw [cvI_u8]; rfl
    rw [ei]
    simp only [ruA, ruB, ruC, ruE, ruD, lenStr, Int.reduceBEq, Int.reduceBNe, e, mul8 (show k < 1000000000000 by omega), i64_shr (show 8 * k < 64 by omega), cv, b1, b2, w1]
    exact c1
theorem rbytes_ok (v : Nat) (H : Heap) : ∃ w' H', Cl 53 [.int .i64 (v : Int)] H w' H' ∧ Keep (all H) H H' ∧ Acc (all H) H' 1 w' 8 (B (be8 v)) := by
  obtain ⟨w', H', c1, c2, c3⟩ := rbytes_loop (H0 := H) (v := v) 8 nilS H (by omega) (Keep.refl _ _) Acc.nil
  refine ⟨w', H', Ev.enter (fun n => f53_eq rfl n _ _) ?_, c2, c3⟩
  simp only [f53]
  exact Ev.loop c1
section
variable {H0 : Heap} {d : List Nat} {v : Value} (hs : Sl (all H0) H0 1 v d.length (B d)) (hd : d.length ≤ 1000000000)
include hs hd
theorem rpad_loop : ∀ (k j : Nat) (w : Value) (H : Heap), j + k = padZ d.length → Keep (all H0) H0 H → Acc (all H0) H 1 w (d.length + 1 + j) (B (d ++ 128 :: List.replicate j 0)) →
    ∃ w' H', Ev (fun n m => f40_L0 real (AC n) n m v w H) (w', H') ∧ Keep (all H0) H0 H' ∧ Acc (all H0) H' 1 w' (padD d).length (B (padD d)) := by
  have hz : padZ d.length < 64 := Nat.mod_lt _ (by omega)
  have hz2 : padZ d.length = (119 - d.length % 64) % 64 := rfl
  intro k
  induction k with
  | zero =>
    intro j w H hj hK hA
    obtain rfl : j = padZ d.length := by omega
    have hmb : mostBytes = 140737488355328 := rfl
    obtain ⟨w1, H1, c1, k1, a1⟩ := rbytes_ok (8 * d.length) H
    have hK1 : Keep (all H0) H0 H1 := hK.trans (k1.mono fun b hb => Nat.lt_of_lt_of_le hb hK.1)
    obtain ⟨w2, H2, b1, b2, b3⟩ := (hA.keep k1).app (by_ := 1) ((Rb.all H0).mono hK1.1) a1.sl.addend (by rw [B_length]; rfl) (by omega)
    refine ⟨w2, H2, Ev.step (fun n m => f40_L0.eq_2 _ _ _ _ _ _ m) ?_, hK1.trans b3, ?_⟩
    · have hb : (((d.length + 1 + padZ d.length) % 64 : Nat) : Int) = 56 := by omega
      have hb2 : ((56 : Int) != 56) = false := rfl
      simp only [ruA, ruB, ruC, ruE, ruD, lenStr, Int.reduceBEq, Int.reduceBNe, hA.sl.lenS, r64, hb, hb2, (hs.keep hK).lenS, mul8 (show d.length < 1000000000000 by omega)]
      refine Ev.callC c1 ?_
      simp only [ruA, ruB, ruC, ruE, ruD, lenStr, Int.reduceBEq, Int.reduceBNe, b1]
      exact Ev.pure _
    · have e1 : (padD d).length = d.length + 1 + padZ d.length + 8 := by rw [padD_len]; omega
      rw [e1]
      have e2 : B (padD d) = B (d ++ 128 :: List.replicate (padZ d.length) 0) ++ B (be8 (8 * d.length)) := by simp [padD, padP, B]
      rw [e2]
      exact b2
  | succ k ih =>
    intro j w H hj hK hA
    obtain ⟨w1, H1, b1, b2, b3, b4⟩ := rbyte_app (x := 0) hK hA (by omega)
    have hl : (d ++ 128 :: List.replicate j 0) ++ [0] = d ++ 128 :: List.replicate (j + 1) 0 := by simp [List.replicate_succ']
    rw [hl] at b3
    obtain ⟨w2, H2, c1, c2, c3⟩ := ih (j + 1) w1 H1 (by omega) b4 b3
    refine ⟨w2, H2, Ev.step (fun n m => f40_L0.eq_2 _ _ _ _ _ _ m) ?_, c2, c3⟩
    have hb : ((((d.length + 1 + j) % 64 : Nat) : Int) != 56) = true := by
      have : (d.length + 1 + j) % 64 ≠ 56 := by omega
      simp; omega
    have b1' : bldS 1 1 [.int .u8 0] [(0, 1, .int .u8 0)] H = some (.slice (some ⟨H.n, 0, none⟩) 1 1, H.push ⟨B [0], 1, true⟩) := b1
    simp only [ruA, ruB, ruC, ruE, ruD, lenStr, Int.reduceBEq, Int.reduceBNe, hA.sl.lenS, r64, hb, b1', b2]
    exact c1
theorem rpad_ok : ∃ w' H', Cl 40 [v] H0 w' H' ∧ Keep (all H0) H0 H' ∧ Acc (all H0) H' 1 w' (padD d).length (B (padD d)) := by
  have hmb : mostBytes = 140737488355328 := rfl
  obtain ⟨v1, H1, a1, a2, a3⟩ := (Acc.nil (R := all H0) (H := H0) (sz := 1)).app (by_ := 1) (Rb.all H0) hs.addend (by rw [B_length]; omega) (by omega)
  rw [List.nil_append, Nat.zero_add] at a2
  obtain ⟨v2, H2, b1, b2, b3, b4⟩ := rbyte_app (x := 128) a3 a2 (by omega)
  obtain ⟨w', H', c1, c2, c3⟩ := rpad_loop hs hd (padZ d.length) 0 v2 H2 (by omega) b4 b3
  refine ⟨w', H', Ev.enter (fun n => f40_eq rfl n _ _) ?_, c2, c3⟩
  have b1' : bldS 1 1 [.int .u8 0] [(0, 1, .int .u8 128)] H1 = some (.slice (some ⟨H1.n, 0, none⟩) 1 1, H1.push ⟨B [128], 1, true⟩) := b1
  simp only [f40, ruA, ruB, ruC, ruE, ruD, lenStr, Int.reduceBEq, Int.reduceBNe, a1, b1', b2]
  exact Ev.loop c1
end
/-! ### of -/
section
variable {b2 b3 b7 : Nat} (n23 : b2 ≠ b3) (n27 : b2 ≠ b7) (n37 : b3 ≠ b7) {s : S8}
include n23 n27 n37
theorem rof_out : ∀ (k i : Nat) (H : Heap), i + k = 32 → H.get b3 = some ⟨WC s.l, 1, true⟩ → H.get b2 = some ⟨B (List.replicate 32 0), 1, true⟩ → H.get b7 = some ⟨B (outI s i), 1, true⟩ →
    ∃ H', Ev (fun n m => f19_L1 real (AC n) n m (ptr b2 0) (ptr b3 0) (ptr b7 0) (.int .i64 (i : Int)) H) (.agg (B (outB s)).toArray, H') ∧ Keep (fun b => b ≠ b2 ∧ b ≠ b7) H H' := by
  intro k
  induction k with
  | zero =>
    intro i H hi h3 h2 h7
    obtain rfl : i = 32 := by omega
    have hf : outI s 32 = outB s := by rw [outI, ← outB_len s, List.take_length]; simp
    rw [hf] at h7
    have hl : (B (outB s)).length = 32 := by rw [B_length, outB_len]
    refine ⟨H.upd b2 (some ⟨B (outB s), 1, true⟩), ?_, Keep.upd (fun h => h.1 rfl)⟩
    refine Ev.step (fun n m => f19_L1.eq_2 _ _ _ _ _ _ _ _ m) ?_
    have e : (((32 : Nat) : Int) < 32) = False := by simp
    simp only [ruA, ruB, ruC, ruE, ruD, lenStr, Int.reduceBEq, Int.reduceBNe, e, ldAG h7 hl, stG h2 (by rw [B_length, List.length_replicate]) hl (B_one _), ldAG (H := H.upd b2 (some ⟨B (outB s), 1, true⟩)) upd_self hl, Option.map_some, resM1, one1]
    exact Ev.pure _
  | succ k ih =>
    intro i H hi h3 h2 h7
    obtain ⟨H1, hH1⟩ : ∃ H1, H.upd b7 (some ⟨B (outI s (i + 1)), 1, true⟩) = H1 := ⟨_, rfl⟩
    have k0 : Keep (fun b => b ≠ b2 ∧ b ≠ b7) H H1 := by rw [← hH1]; exact Keep.upd fun h => h.2 rfl
    obtain ⟨H', c1, k1⟩ := ih (i + 1) H1 (by omega) (by rw [← hH1, upd_ne n37]; exact h3) (by rw [← hH1, upd_ne n27]; exact h2) (by rw [← hH1]; exact upd_self)
    refine ⟨H', ?_, k0.trans k1⟩
    refine Ev.step (fun n m => f19_L1.eq_2 _ _ _ _ _ _ _ _ m) ?_
    have e : ((i : Int) < 32) = True := by simp; omega
    have hx : s.l[i / 4]? = some (s.l.getD (i / 4) 0) := l_at s (i := i / 4) (by omega)
    have e3 : IntKind.i64.wrap (24 - ((8 * (i % 4) : Nat) : Int)) = ((8 * (3 - i % 4) : Nat) : Int) := by rw [wrap_i64 (by omega) (by omega)]; omega
    have st : stV 1 (ptr b7 i) (.int .u8 ((obyte s i : Nat) : Int)) H = some (undef, H1) := by
      rw [stV1_box h7 (by rw [B_length, outI_len s (by omega)]; omega) rfl rfl, B_set, outI_set s (by omega), hH1]
    unfold obyte at st
    simp only [ruA, ruB, ruC, ruE, ruD, lenStr, Int.reduceBEq, Int.reduceBNe, e, q4 (show i < 9223372036854775808 by omega), iA (show i / 4 < 8 by omega), ldG h3 (WC_at hx), r4, mul8 (show i % 4 < 1000000000000 by omega), e3, w_shr (show 8 * (3 - i % 4) < 32 by omega), cv8_iv, iA (show i < 32 by omega), st, idx_up (show i < 9223372036854775807 by omega)]
    exact c1
end
theorem rof_loop {b2 b3 : Nat} (n23 : b2 ≠ b3) {r : List Nat} {vp vk : Value} (hb : ∀ c ∈ r, c < 256) (hbig : r.length ≤ 1000000000000) : ∀ (k i : Nat) (s : S8) (H : Heap), r.length = i + 64 * k →
    Sl (But H b3) H 1 vp r.length (B r) → Sl (But H b3) H 1 vk 64 (WC KK) → H.get b3 = some ⟨WC s.l, 1, true⟩ → H.get b2 = some ⟨B (List.replicate 32 0), 1, true⟩ → b2 < H.n → b3 < H.n →
    ∃ H', Ev (fun n m => f19_L0 real (AC n) n m (ptr b2 0) (ptr b3 0) vk vp (.int .i64 (i : Int)) H) (.agg (B (outB (blks k s (r.drop i)))).toArray, H') ∧ Keep (fun b => b < H.n ∧ b ≠ b2 ∧ b ≠ b3) H H' := by
  intro k
  induction k with
  | zero =>
    intro i s H hr hs hk h3 h2 hb2 hb3
    have hz : outI s 0 = List.replicate 32 0 := by simp [outI]
    obtain ⟨H', c1, k1⟩ := rof_out (b2 := b2) (b3 := b3) (b7 := H.n) n23 (by omega) (by omega) (s := s) 32 0 (H.push ⟨B (List.replicate 32 0), 1, true⟩) (by omega) (by rw [push_lt hb3]; exact h3) (by rw [push_lt hb2]; exact h2) (by rw [hz]; exact push_self)
    refine ⟨H', ?_, (Keep.push fun b hb => hb.1).trans (k1.mono fun b hb => ⟨hb.2.1, by have := hb.1; omega⟩)⟩
    refine Ev.step (fun n m => f19_L0.eq_2 _ _ _ _ _ _ _ _ _ m) ?_
    simp only [ruA, ruB, ruC, ruE, ruD, lenStr, Int.reduceBEq, Int.reduceBNe, hs.lenS, idx_ge (show r.length ≤ i by omega), rep_B, newV_box (B_one _)]
    exact Ev.loop c1
  | succ k ih =>
    intro i s H hr hs hk h3 h2 hb2 hb3
    obtain ⟨p1, q1, q2⟩ := By.part hs (k := .i64) (k' := .i64) (i := i) (j := i + 64) (by omega) (by omega)
    rw [show i + 64 - i = 64 by omega] at q2
    have ht : ((r.drop i).take 64).length = 64 := by rw [List.length_take, List.length_drop]; omega
    obtain ⟨vw, H1, c1, k1, a1⟩ := rwords_ok ht (fun c hc => hb c (List.mem_of_mem_drop (List.mem_of_mem_take hc))) (q2.mono (all_but H b3))
    have n1 := k1.1
    have hW : (sched ((r.drop i).take 64)).length = 64 := sched_len _
    have w1 : Sl (all H1) H1 1 vw (sched ((r.drop i).take 64)).length (WC (sched ((r.drop i).take 64))) := by rw [hW]; exact a1.sl
    have vk1 : Sl (all H1) H1 1 vk KK.length (WC KK) := ((hk.mono (all_but H b3)).keep k1).mono (upA k1)
    obtain ⟨H2, c2, k2⟩ := rounds_ok (s := s) w1 vk1 rfl hW
    have n2 := k2.1
    have g3 : H2.get b3 = some ⟨WC s.l, 1, true⟩ := by rw [k2.2 _ (show b3 < H1.n by omega), k1.2 _ (show b3 < H.n by omega)]; exact h3
    have g2 : H2.get b2 = some ⟨B (List.replicate 32 0), 1, true⟩ := by rw [k2.2 _ (show b2 < H1.n by omega), k1.2 _ (show b2 < H.n by omega)]; exact h2
    have hbw : blkW s KK (sched ((r.drop i).take 64)) = blk s ((r.drop i).take 64) := rfl
    rw [hbw] at c2
    obtain ⟨H3, hH3⟩ : ∃ H3, H2.upd b3 (some ⟨WC (blk s ((r.drop i).take 64)).l, 1, true⟩) = H3 := ⟨_, rfl⟩
    have n3 : H3.n = H2.n := by rw [← hH3]; rfl
    have k12 : Keep (all H) H H2 := k1.trans (k2.mono (upA k1))
    have kk : Keep (But H b3) H H3 := by rw [← hH3]; exact (k12.mono (all_but H b3)).trans (Keep.upd fun h => h.2 rfl)
    have f3 : H3.get b3 = some ⟨WC (blk s ((r.drop i).take 64)).l, 1, true⟩ := by rw [← hH3]; exact upd_self
    have f2 : H3.get b2 = some ⟨B (List.replicate 32 0), 1, true⟩ := by rw [← hH3, upd_ne n23]; exact g2
    obtain ⟨H', c4, k4⟩ := ih (i + 64) (blk s ((r.drop i).take 64)) H3 (by omega) ((hs.keep kk).mono (but_up kk.1)) ((hk.keep kk).mono (but_up kk.1)) f3 f2 (Nat.lt_of_lt_of_le hb2 kk.1) (Nat.lt_of_lt_of_le hb3 kk.1)
    rw [← List.drop_drop] at c4
    refine ⟨H', ?_, (kk.mono fun b h => ⟨h.1, h.2.2⟩).trans (k4.mono fun b h => ⟨Nat.lt_of_lt_of_le h.1 kk.1, h.2⟩)⟩
    refine Ev.step (fun n m => f19_L0.eq_2 _ _ _ _ _ _ _ _ _ m) ?_
    have up64 : IntKind.i64.wrap ((i : Int) + 64) = ((i + 64 : Nat) : Int) := by rw [wrap_i64 (by omega) (by omega)]; rfl
    have sb1 : sameBlk H H1 (blkOf (ptr b3 0)) = true := (Box.blk (R := all H) (cs := WC s.l) ⟨hb3, _, _, h3⟩ k1)
    simp only [ruA, ruB, ruC, ruE, ruD, lenStr, Int.reduceBEq, Int.reduceBNe, hs.lenS, up64, idx_lt (show i < r.length by omega), ldAG h3 (WC8 s), q1]
    refine Ev.callC c1 ?_
    simp only [ruA, ruB, ruC, ruE, ruD, lenStr, Int.reduceBEq, Int.reduceBNe, sb1, Bool.and_true]
    refine Ev.callC c2 ?_
    simp only [ruA, ruB, ruC, ruE, ruD, lenStr, Int.reduceBEq, Int.reduceBNe, stG g3 (WC8 s) (WC8 _) (WC_one _), hH3, up64]
    exact c4
theorem rof_ok {H : Heap} {d : List Nat} {v : Value} (hs : Sl (all H) H 1 v d.length (B d)) (hb : ∀ c ∈ d, c < 256) (hd : d.length ≤ 1000000000) :
    ∃ H', Cl 19 [v] H (.agg (B (shaD d)).toArray) H' ∧ Keep (all H) H H' := by
  obtain ⟨H1, hH1⟩ : ∃ H1, H.push ⟨B (List.replicate 32 0), 1, true⟩ = H1 := ⟨_, rfl⟩
  have n1 : H1.n = H.n + 1 := by rw [← hH1]; rfl
  have k1 : Keep (all H) H H1 := by rw [← hH1]; exact push_keep
  obtain ⟨H2, c2, k2⟩ := rbegin_ok H1
  have n2 := k2.1
  obtain ⟨H3, hH3⟩ : ∃ H3, H2.push ⟨WC h0.l, 1, true⟩ = H3 := ⟨_, rfl⟩
  have n3 : H3.n = H2.n + 1 := by rw [← hH3]; rfl
  have k13 : Keep (all H1) H1 H3 := by rw [← hH3]; exact k2.trans (push_keep.mono (upA k2))
  have k3 : Keep (all H) H H3 := k1.trans (k13.mono (upA k1))
  obtain ⟨vk, H4, c4, k4, a4⟩ := rts_ok (p := 3) (many := 64) (.inr rfl) (by omega) rts3 H3
  have n4 := k4.1
  have kk4 : Keep (all H) H H4 := k3.trans (k4.mono (upA k3))
  obtain ⟨vp, H5, c5, k5, a5⟩ := rpad_ok ((hs.keep kk4).mono (upA kk4)) hd
  have n5 := k5.1
  have hb2 : H5.get H.n = some ⟨B (List.replicate 32 0), 1, true⟩ := by
    rw [k5.2 _ (show H.n < H4.n by omega), k4.2 _ (show H.n < H3.n by omega), k13.2 _ (show H.n < H1.n by omega), ← hH1]; exact push_self
  have hb3 : H5.get H2.n = some ⟨WC h0.l, 1, true⟩ := by
    rw [k5.2 _ (show H2.n < H4.n by omega), k4.2 _ (show H2.n < H3.n by omega), ← hH3]; exact push_self
  have hp : Sl (But H5 H2.n) H5 1 vp (padD d).length (B (padD d)) := a5.read fun b hb h => ⟨h, by have : ¬ b < H4.n := hb; omega⟩
  have hk4 : Sl (fun b => b < H4.n ∧ b ≠ H2.n) H4 1 vk KK.length (WC KK) := a4.read fun b hb h => ⟨h, by have : ¬ b < H3.n := hb; omega⟩
  have hk : Sl (But H5 H2.n) H5 1 vk 64 (WC KK) := (hk4.keep (k5.mono fun b hb => hb.1)).mono fun b hb => ⟨Nat.lt_of_lt_of_le hb.1 n5, hb.2⟩
  have hm := padD_mod d
  have hl := padD_len d
  have hz : padZ d.length < 64 := Nat.mod_lt _ (by omega)
  obtain ⟨H6, c6, k6⟩ := rof_loop (b2 := H.n) (b3 := H2.n) (by omega) (padD_byte hb) (by omega) ((padD d).length / 64) 0 h0 H5 (by omega) hp hk hb3 hb2 (by omega) (by omega)
  refine ⟨H6, ?_, (kk4.trans (k5.mono (upA kk4))).trans (k6.mono fun b hb => by have : b < H.n := hb; exact ⟨by omega, by omega, by omega⟩)⟩
  refine Ev.enter (fun n => f19_eq rfl n _ _) ?_
  simp only [f19, ruA, rep_B, newV_box (B_one _), hH1]
  refine Ev.callC c2 ?_
  rw [zero8]
  simp only [ruA, newV_box (WC_one _)]
  rw [stA_push (by rfl) (WC8 _) (WC_one _), hH3]
  simp only [ruA]
  refine Ev.callC c4 ?_
  refine Ev.callC c5 ?_
  exact Ev.loop c6
theorem digests_law {H : Heap} {d0 : List Nat} {v : Value} (hs0 : Sl (all H) H 1 v d0.length (B d0)) (hb0 : ∀ c ∈ d0, c < 256) : ∃ H', Cl 5 [v] H (.bool true) H' := by
  obtain ⟨d, hdd⟩ : ∃ d, d0.take (min d0.length 3000) = d := ⟨_, rfl⟩
  obtain ⟨v1, q1, q2⟩ := By.upto hs0 (i := min d0.length 3000) (by omega)
  rw [hdd] at q2
  have hd : d.length ≤ 3000 := by rw [← hdd, List.length_take]; omega
  have hb : ∀ c ∈ d, c < 256 := fun c hc => hb0 c (by rw [← hdd] at hc; exact List.mem_of_mem_take hc)
  obtain ⟨vc, H1, c1, k1, s1⟩ := copy_ok q2 (by omega)
  obtain ⟨H2, c2, k2⟩ := of_ok s1 hb (by omega)
  have k02 : Keep (all H) H H2 := k1.trans (k2.mono (upA k1))
  obtain ⟨H3, c3, k3⟩ := rof_ok (q2.up k02) hb (by omega)
  have k03 : Keep (all H) H H3 := k02.trans (k3.mono (upA k02))
  have hq := eqb_ok ((s1.up k2).up k3) (q2.up k03) (by omega)
  rw [decide_eq_true rfl] at hq
  obtain ⟨H', ha, _⟩ := awake_ok H3
  have eb := eq_bytes (l := shaD d) (outB_len _) (outB_byte _)
  have mv : minV (.int .i64 (d0.length : Int)) (.int .i64 3000) H = some (.int .i64 ((min d0.length 3000 : Nat) : Int), H) := minV_nat (a := d0.length) (b := 3000)
  refine ⟨H', Ev.enter (fun n => f5_eq rfl n _ _) ?_⟩
  simp only [f5, ruA, ruB, ruC, ruE, ruD, lenStr, Int.reduceBEq, Int.reduceBNe, hs0.lenS, mv, q1]
  refine Ev.callC c1 ?_
  refine Ev.callC c2 ?_
  refine Ev.callC c3 ?_
  simp only [ruA, ruB, ruC, ruE, ruD, lenStr, Int.reduceBEq, Int.reduceBNe, eb]
  refine Ev.callC hq ?_
  simp only [ruA, ruB, ruC, ruE, ruD, lenStr, Int.reduceBEq, Int.reduceBNe]
  refine Ev.callC ha ?_
  exact Ev.pure _
end Go.Eng
