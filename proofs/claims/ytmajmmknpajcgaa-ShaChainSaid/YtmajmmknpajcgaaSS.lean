/- What blocks make, one behind the other; the chain. -/
import Derived.Test.YtmajmmknpajcgaaSQ
import Derived.Test.YtmajmmknpajcgaaSP
set_option linter.unusedVariables false
set_option linter.unusedSimpArgs false
set_option linter.unusedSectionVars false
set_option maxRecDepth 100000
namespace Go.Eng
open Go Go.Proofs

theorem blks_add : ∀ (a b : Nat) (s : S8) (d : List Nat), blks (a + b) s d = blks b (blks a s d) (d.drop (64 * a))
  | 0, b, s, d => by simp [blks]
  | a + 1, b, s, d => by
    rw [show a + 1 + b = (a + b) + 1 by omega, blks, blks, blks_add a b, List.drop_drop, show 64 + 64 * a = 64 * (a + 1) by omega]
theorem blks_take : ∀ (a : Nat) (s : S8) (d : List Nat), blks a s (d.take (64 * a)) = blks a s d
  | 0, s, d => rfl
  | a + 1, s, d => by
    rw [blks, blks, List.take_take, Nat.min_eq_left (by omega), List.drop_take, show 64 * (a + 1) - 64 = 64 * a by omega, blks_take a]
section
variable {b2 b4 K : Nat} {r : List Nat} {p : Value} {H0 : Heap} (hne : b2 ≠ b4) (hr : r.length = 64 * K) (hb : ∀ c ∈ r, c < 256) (hbig : r.length ≤ 1000000000)
include hne hr hb hbig
theorem folded_loop : ∀ (k j : Nat) (s : S8) (H : Heap), j + k = K → Sl (But H b2) H 1 p r.length (B r) → H.get b2 = some ⟨WC s.l, 1, true⟩ → H.get b4 = some ⟨WC (List.replicate 8 0), 1, true⟩ → b2 < H.n → b4 < H.n →
    ∃ H', Ev (fun n m => f22_L0 real (AC n) n m p (ptr b2 0) (ptr b4 0) (.int .i64 ((64 * j : Nat) : Int)) H) (.tuple #[.agg (WC (blks k s (r.drop (64 * j))).l).toArray, .bool true], H') ∧ Keep (fun b => b < H.n ∧ b ≠ b2 ∧ b ≠ b4) H H' := by
  intro k
  induction k with
  | zero =>
    intro j s H hj hs h2 h4 n2 n4
    refine ⟨H.upd b4 (some ⟨WC s.l, 1, true⟩), ?_, Keep.upd fun h => h.2.2 rfl⟩
    refine Ev.step (fun n m => f22_L0.eq_2 _ _ _ _ _ _ _ _ m) ?_
    have e1 : IntKind.i64.wrap (((64 * j : Nat) : Int) + 64) = ((64 * j + 64 : Nat) : Int) := by rw [wrap_i64 (by omega) (by omega)]; omega
    have e2 : (((64 * j + 64 : Nat) : Int) ≤ (r.length : Int)) = False := by simp only [eq_iff_iff, iff_false]; omega
    have e3 : (((r.length % 64 : Nat) : Int) == 0) = true := by simp; omega
    simp only [ruA, ruB, ruC, ruE, ruD, lenStr, Int.reduceBEq, Int.reduceBNe, e1, hs.lenS, e2, ldAG h2 (WC8 s), r64, e3, stG h4 (by rfl) (WC8 s) (WC_one _), ldAG (H := H.upd b4 (some ⟨WC s.l, 1, true⟩)) upd_self (WC8 s), Option.map_some, resM2, one2, blks]
    exact Ev.pure _
  | succ k ih =>
    intro j s H hj hs h2 h4 n2 n4
    obtain ⟨q, q1, q2⟩ := By.part hs (k := .i64) (k' := .i64) (i := 64 * j) (j := 64 * j + 64) (by omega) (by omega)
    have hq : (r.drop (64 * j)).take (64 * j + 64 - 64 * j) = (r.drop (64 * j)).take 64 := by rw [show 64 * j + 64 - 64 * j = 64 by omega]
    rw [hq] at q2
    have ht : ((r.drop (64 * j)).take 64).length = 64 := by rw [List.length_take, List.length_drop]; omega
    obtain ⟨H1, c1, k1⟩ := block_ok s ht (fun c hc => hb c (List.mem_of_mem_drop (List.mem_of_mem_take hc))) (q2.mono (all_but H b2))
    obtain ⟨t, htt⟩ : ∃ t, blk s ((r.drop (64 * j)).take 64) = t := ⟨_, rfl⟩
    rw [htt] at c1
    have g2 : (H1.push ⟨WC t.l, 1, true⟩).get b2 = some ⟨WC s.l, 1, true⟩ := by rw [push_lt (by have := k1.1; omega), k1.2 _ n2]; exact h2
    obtain ⟨H2, hH2⟩ : ∃ H2, (H1.push ⟨WC t.l, 1, true⟩).upd b2 (some ⟨WC t.l, 1, true⟩) = H2 := ⟨_, rfl⟩
    have nn : H2.n = H1.n + 1 := by rw [← hH2]; rfl
    have kk : Keep (But H b2) H H2 := by
      rw [← hH2]
      exact ((k1.mono (all_but H b2)).trans (Keep.push fun b hb => by have := hb.1; have := k1.1; omega)).trans (Keep.upd fun h => h.2 rfl)
    have f2 : H2.get b2 = some ⟨WC t.l, 1, true⟩ := by rw [← hH2]; exact upd_self
    have f4 : H2.get b4 = some ⟨WC (List.replicate 8 0), 1, true⟩ := by rw [kk.2 b4 ⟨n4, Ne.symm hne⟩]; exact h4
    obtain ⟨H3, c3, k3⟩ := ih (j + 1) t H2 (by omega) ((hs.keep kk).mono (but_up kk.1)) f2 f4 (Nat.lt_of_lt_of_le n2 kk.1) (Nat.lt_of_lt_of_le n4 kk.1)
    refine ⟨H3, ?_, (kk.mono fun b h => ⟨h.1, h.2.1⟩).trans (k3.mono fun b h => ⟨Nat.lt_of_lt_of_le h.1 kk.1, h.2⟩)⟩
    refine Ev.step (fun n m => f22_L0.eq_2 _ _ _ _ _ _ _ _ m) ?_
    have e1 : IntKind.i64.wrap (((64 * j : Nat) : Int) + 64) = ((64 * j + 64 : Nat) : Int) := by rw [wrap_i64 (by omega) (by omega)]; omega
    have e2 : (((64 * j + 64 : Nat) : Int) ≤ (r.length : Int)) = True := by simp only [eq_iff_iff, iff_true]; omega
    simp only [ruA, ruB, ruC, ruE, ruD, lenStr, Int.reduceBEq, Int.reduceBNe, e1, hs.lenS, e2, ldAG h2 (WC8 s), q1]
    refine Ev.callC c1 ?_
    rw [zero8]
    simp only [ruA, ruB, ruC, ruE, ruD, lenStr, Int.reduceBEq, Int.reduceBNe, newV_box (WC_one _)]
    rw [stA_push (by rfl) (WC8 t) (WC_one _)]
    simp only [ruA, ruB, ruC, ruE, ruD, lenStr, Int.reduceBEq, Int.reduceBNe]
    rw [ldA_push (WC8 t).symm]
    simp only [ruA, ruB, ruC, ruE, ruD, lenStr, Int.reduceBEq, Int.reduceBNe, stG g2 (WC8 s) (WC8 t) (WC_one _), hH2, e1]
    have ed : blks (k + 1) s (r.drop (64 * j)) = blks k t (r.drop (64 * (j + 1))) := by
      rw [blks, htt, List.drop_drop, show 64 * j + 64 = 64 * (j + 1) by omega]
    rw [ed, show 64 * j + 64 = 64 * (j + 1) by omega]
    exact c3
end
theorem folded_ok {H : Heap} {K : Nat} {r : List Nat} {p : Value} (s : S8) (hr : r.length = 64 * K) (hb : ∀ c ∈ r, c < 256) (hbig : r.length ≤ 1000000000) (hs : Sl (all H) H 1 p r.length (B r)) :
    ∃ H', Cl 22 [.agg (WC s.l).toArray, p] H (.tuple #[.agg (WC (blks K s r).l).toArray, .bool true]) H' ∧ Keep (all H) H H' := by
  obtain ⟨H1, hH1⟩ : ∃ H1, (H.push ⟨WC s.l, 1, true⟩).push ⟨WC (List.replicate 8 0), 1, true⟩ = H1 := ⟨_, rfl⟩
  have n1 : H1.n = H.n + 2 := by rw [← hH1]; rfl
  have k1 : Keep (all H) H H1 := by rw [← hH1]; exact push_keep.trans (push_keep.mono (upA push_keep))
  have g2 : H1.get H.n = some ⟨WC s.l, 1, true⟩ := by rw [← hH1, push_lt (by simp [push_n])]; exact push_self
  have g4 : H1.get (H.n + 1) = some ⟨WC (List.replicate 8 0), 1, true⟩ := by rw [← hH1]; exact push_self
  obtain ⟨H2, c2, k2⟩ := folded_loop (b2 := H.n) (b4 := H.n + 1) (p := p) (by omega) hr hb hbig K 0 s H1 (by omega) ((hs.keep k1).mono fun b hb => ⟨Nat.lt_of_lt_of_le hb k1.1, fun e => by have : b < H.n := hb; omega⟩) g2 g4 (by omega) (by omega)
  refine ⟨H2, ?_, k1.trans (k2.mono fun b hb => by have : b < H.n := hb; exact ⟨by omega, by omega, by omega⟩)⟩
  refine Ev.enter (fun n => f22_eq rfl n _ _ _) ?_
  simp only [f22, ruA, newA (WC_one s.l)]
  rw [zero8]
  simp only [ruA, newV_box (WC_one _), push_n, hH1]
  exact Ev.loop c2
section
variable {H : Heap} {b9 b11 : Nat} {y : S8} (h9 : H.get b9 = some ⟨WC y.l, 1, true⟩) (h11 : H.get b11 = some ⟨B (outB y), 1, true⟩)
include h9 h11
theorem chain_loop : ∀ (k i : Nat), i + k = 32 → ∃ H', Ev (fun n m => f6_L0 real (AC n) n m (.bool true) (ptr b9 0) (.bool true) (ptr b11 0) (.int .i64 (i : Int)) H) (.bool true, H') := by
  intro k
  induction k with
  | zero =>
    intro i hi
    obtain ⟨H', ha, _⟩ := awake_ok H
    refine ⟨H', Ev.step (fun n m => f6_L0.eq_2 _ _ _ _ _ _ _ _ _ m) ?_⟩
    have e : ((i : Int) < 32) = False := by simp; omega
    simp only [ruA, ruB, ruC, ruE, ruD, lenStr, Int.reduceBEq, Int.reduceBNe, e]
    refine Ev.callC ha ?_
    exact Ev.pure _
  | succ k ih =>
    intro i hi
    obtain ⟨H', hx⟩ := ih (i + 1) (by omega)
    refine ⟨H', Ev.step (fun n m => f6_L0.eq_2 _ _ _ _ _ _ _ _ _ m) ?_⟩
    have e : ((i : Int) < 32) = True := by simp; omega
    have hw : y.l[i / 4]? = some (y.l.getD (i / 4) 0) := by
      rw [List.getD_eq_getElem?_getD, List.getElem?_eq_getElem (by show i / 4 < 8; omega)]; rfl
    have e3 : IntKind.i64.wrap (24 - ((8 * (i % 4) : Nat) : Int)) = ((8 * (3 - i % 4) : Nat) : Int) := by rw [wrap_i64 (by omega) (by omega)]; omega
    have hd := outB_at y (show i < 32 by omega)
    unfold obyte at hd
    have hne : ∀ a : Nat, ((a : Int) != (a : Int)) = false := fun a => by simp
    simp only [ruA, ruB, ruC, ruE, ruD, lenStr, Int.reduceBEq, Int.reduceBNe, e, iA (show i < 32 by omega), ldG h11 (B_at hd), q4 (show i < 9223372036854775808 by omega), iA (show i / 4 < 8 by omega), ldG h9 (WC_at hw), r4, mul8 (show i % 4 < 1000000000000 by omega), e3, w_shr (show 8 * (3 - i % 4) < 32 by omega), cv8_iv, hne, idx_up (show i < 9223372036854775807 by omega)]
    exact hx
end
theorem chain_law {H : Heap} {d0 : List Nat} {v : Value} (at_ : Int) (hs : Sl (all H) H 1 v d0.length (B d0)) (hb0 : ∀ c ∈ d0, c < 256) : ∃ H', Cl 6 [v, .int .i64 at_] H (.bool true) H' := by
  obtain ⟨n, hn⟩ : ∃ n, min d0.length 3000 = n := ⟨_, rfl⟩
  obtain ⟨w, w1, w2⟩ := By.upto hs (i := n) (by omega)
  obtain ⟨d, hd⟩ : ∃ d, d0.take n = d := ⟨_, rfl⟩
  have hdl : d.length = n := by rw [← hd, List.length_take]; omega
  have hb : ∀ c ∈ d, c < 256 := fun c hc => hb0 c (by rw [← hd] at hc; exact List.mem_of_mem_take hc)
  rw [hd] at w2
  obtain ⟨H1, X, c1, k1, x1, x2, x3⟩ := pad_ok w2 (by omega)
  obtain ⟨P, hP⟩ : ∃ P, padD d = P := ⟨_, rfl⟩
  have hl := padD_len d
  have hz : padZ d.length < 64 := Nat.mod_lt _ (by omega)
  have hm := padD_mod d
  have hPb := padD_byte hb
  rw [hP] at c1 x3 hl hm hPb
  have hw : Sl (all H1) H1 1 (.slice (some ⟨X, 0, some 0⟩) P.length P.length) P.length (B P) :=
    .inr (.inr ⟨X, 0, some 0, _, _, rfl, x2, x3, by simp [B_length], by simp, by rw [cut, List.drop_zero, Nat.mul_one, ← B_length P, List.take_length]⟩)
  have hv : Sl (all H1) H1 1 w d.length (B d) := (w2.keep k1).mono (upA k1)
  obtain ⟨M, hM⟩ : ∃ M, P.length / 64 = M := ⟨_, rfl⟩
  have hPM : P.length = 64 * M := by omega
  obtain ⟨a, ha, hbr⟩ := bring_ok (n := M + 1) (by omega) (by omega) at_ H1
  obtain ⟨u1, q1, q2⟩ := By.upto hw (i := 64 * a) (by omega)
  obtain ⟨u2, q3, q4'⟩ := By.from hw (k := .i64) (i := 64 * a) (by omega)
  obtain ⟨H2, c2, k2⟩ := folded_ok (K := a) h0 (by rw [List.length_take]; omega) (fun c hc => hPb c (List.mem_of_mem_take hc)) (by rw [List.length_take]; omega) q2
  obtain ⟨s1, hs1⟩ : ∃ s, blks a h0 (P.take (64 * a)) = s := ⟨_, rfl⟩
  rw [hs1] at c2
  obtain ⟨H3, hH3⟩ : ∃ H3, H2.push ⟨WC s1.l, 1, true⟩ = H3 := ⟨_, rfl⟩
  have k3 : Keep (all H1) H1 H3 := by rw [← hH3]; exact k2.trans (push_keep.mono (upA k2))
  have hlen2 : (P.drop (64 * a)).length = 64 * (M - a) := by rw [List.length_drop]; omega
  obtain ⟨H4, c4, k4⟩ := folded_ok (K := M - a) s1 hlen2 (fun c hc => hPb c (List.mem_of_mem_drop hc)) (by omega) ((q4'.keep k3).mono (upA k3))
  obtain ⟨s2, hs2⟩ : ∃ s, blks (M - a) s1 (P.drop (64 * a)) = s := ⟨_, rfl⟩
  rw [hs2] at c4
  have hfin : blks M h0 P = s2 := by
    rw [← hs2, ← hs1, blks_take, ← blks_add, show a + (M - a) = M by omega]
  obtain ⟨H5, hH5⟩ : ∃ H5, H4.push ⟨WC s2.l, 1, true⟩ = H5 := ⟨_, rfl⟩
  have k5 : Keep (all H3) H3 H5 := by rw [← hH5]; exact k4.trans (push_keep.mono (upA k4))
  have k15 : Keep (all H1) H1 H5 := k3.trans (k5.mono (upA k3))
  obtain ⟨H6, c6, k6⟩ := of_ok ((hv.keep k15).mono (upA k15)) hb (by omega)
  have hsha : shaD d = outB s2 := by rw [shaD, hP, hM, hfin]
  rw [hsha] at c6
  obtain ⟨H7, hH7⟩ : ∃ H7, H6.push ⟨B (outB s2), 1, true⟩ = H7 := ⟨_, rfl⟩
  have n6 := k6.1
  have n5 : H5.n = H4.n + 1 := by rw [← hH5]; rfl
  have g9 : H7.get H4.n = some ⟨WC s2.l, 1, true⟩ := by
    rw [← hH7, push_lt (by omega), k6.2 _ (show H4.n < H5.n by omega), ← hH5]; exact push_self
  have g11 : H7.get H6.n = some ⟨B (outB s2), 1, true⟩ := by rw [← hH7]; exact push_self
  obtain ⟨H', hx⟩ := chain_loop g9 g11 32 0 (by omega)
  refine ⟨H', Ev.enter (fun n => f6_eq rfl n _ _ _) ?_⟩
  have m1 : minV (.int .i64 (d0.length : Int)) (.int .i64 3000) H = some (.int .i64 (n : Int), H) := by rw [← hn]; exact minV_nat (b := 3000)
  have e1 : ((P.length : Int) == 0) = false := beq_false_of_ne (by omega)
  have e2 : (((P.length % 64 : Nat) : Int) != 0) = false := by simp; omega
  have e3 : binB Try.prog .quo 3 (.int .i64 (P.length : Int)) (.int .i64 64) = some (.int .i64 (M : Int)) := by
    rw [b_quo (by decide), Int.tdiv_eq_ediv_of_nonneg (by omega), wrap_i64 (by omega) (by omega), ← hM]; rfl
  have e4 : binB Try.prog .mul 3 (.int .i64 64) (.int .i64 (a : Int)) = some (.int .i64 ((64 * a : Nat) : Int)) := by
    rw [b_mul, show ((64 : Int) * (a : Int)) = ((64 * a : Nat) : Int) by omega, wrap_i64 (by omega) (by omega)]
  simp only [f6, ruA, ruB, ruC, ruE, ruD, lenStr, Int.reduceBEq, Int.reduceBNe, hs.lenS, m1, w1]
  refine Ev.callC c1 ?_
  simp only [ruA, ruB, ruC, ruE, ruD, lenStr, Int.reduceBEq, Int.reduceBNe, hw.lenS, e1, r64, e2, e3, idx_up (show M < 9223372036854775807 by omega)]
  refine Ev.callC hbr ?_
  simp only [ruA, ruB, ruC, ruE, ruD, lenStr, Int.reduceBEq, Int.reduceBNe, e4]
  refine Ev.callC (begin_cl H1) ?_
  simp only [ruA, ruB, ruC, ruE, ruD, lenStr, Int.reduceBEq, Int.reduceBNe, q1]
  refine Ev.callC c2 ?_
  rw [zero8]
  simp only [ruA, ruB, ruC, ruE, ruD, lenStr, Int.reduceBEq, Int.reduceBNe, newV_box (WC_one _)]
  rw [stA_push (by rfl) (WC8 s1) (WC_one _)]
  simp only [ruA, ruB, ruC, ruE, ruD, lenStr, Int.reduceBEq, Int.reduceBNe]
  rw [ldA_push (WC8 s1).symm, hH3]
  simp only [ruA, ruB, ruC, ruE, ruD, lenStr, Int.reduceBEq, Int.reduceBNe, q3]
  refine Ev.callC c4 ?_
  simp only [ruA, ruB, ruC, ruE, ruD, lenStr, Int.reduceBEq, Int.reduceBNe, newV_box (WC_one _)]
  rw [stA_push (by rfl) (WC8 s2) (WC_one _), hH5]
  simp only [ruA, ruB, ruC, ruE, ruD, lenStr, Int.reduceBEq, Int.reduceBNe]
  refine Ev.callC c6 ?_
  simp only [ruA, ruB, ruC, ruE, ruD, lenStr, Int.reduceBEq, Int.reduceBNe, rep_B, newV_box (B_one _)]
  rw [stA_push (by rw [B_length, List.length_replicate]) (by rw [B_length, outB_len]) (B_one _), hH7]
  simp only [ruA, ruB, ruC, ruE, ruD, lenStr, Int.reduceBEq, Int.reduceBNe]
  exact Ev.loop hx
end Go.Eng
