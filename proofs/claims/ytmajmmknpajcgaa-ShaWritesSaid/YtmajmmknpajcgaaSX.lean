/- The reference's digits, written and read. -/
import Derived.Test.YtmajmmknpajcgaaSV
set_option linter.unusedVariables false
set_option linter.unusedSimpArgs false
set_option linter.unusedSectionVars false
set_option maxRecDepth 100000
namespace Go.Eng
open Go Go.Proofs

theorem hexD_val : ((List.range 16).all fun n => decide ((hexD n).toNat = if n < 10 then 48 + n else 87 + n)) = true := by kernel_rfl
theorem digit_ok {n : Nat} (h : n < 16) (H : Heap) : Cl 47 [.int .i64 (n : Int)] H (.int .u8 ((hexD n).toNat : Int)) H := by
  have hv := List.all_eq_true.1 hexD_val n (List.mem_range.2 h)
  rw [decide_eq_true_eq] at hv
  refine Ev.enter (fun n => f47_eq rfl n _ _) ?_
  by_cases h10 : n < 10
  · have e : ((n : Int) < 10) = True := by simp only [eq_iff_iff, iff_true]; omega
    rw [if_pos h10] at hv
    have e1 : IntKind.i64.wrap (48 + (n : Int)) = ((48 + n : Nat) : Int) := by rw [wrap_i64 (by omega) (by omega)]; omega
    simp only [f47, ruA, ruB, ruC, ruE, ruD, lenStr, Int.reduceBEq, Int.reduceBNe, e, e1, cv8n (show 48 + n < 256 by omega), hv]
    exact Ev.pure _
  · have e : ((n : Int) < 10) = False := by simp only [eq_iff_iff, iff_false]; omega
    rw [if_neg h10] at hv
    have e1 : IntKind.i64.wrap (87 + (n : Int)) = ((87 + n : Nat) : Int) := by rw [wrap_i64 (by omega) (by omega)]; omega
    simp only [f47, ruA, ruB, ruC, ruE, ruD, lenStr, Int.reduceBEq, Int.reduceBNe, e, e1, cv8n (show 87 + n < 256 by omega), hv]
    exact Ev.pure _
theorem worth_loop (c : UInt8) (H : Heap) : ∀ (k n : Nat), n + k = 16 → (∀ j, j < n → hexD j ≠ c) → Ev (fun m i => f44_L0 real (AC m) m i (.int .u8 (c.toNat : Int)) (.int .i64 (n : Int)) H) (.int .i64 (hexV c), H) := by
  intro k
  induction k with
  | zero =>
    intro n hn hj
    have hv : hexV c = -1 := by
      rcases hexV_or c with h | ⟨k, k1, k2, k3⟩
      · exact h
      · exact absurd k3 (hj k (by omega))
    rw [hv]
    refine Ev.step (fun n m => f44_L0.eq_2 _ _ _ _ _ _ m) ?_
    have e : ((n : Int) < 16) = False := by simp only [eq_iff_iff, iff_false]; omega
    simp only [ruA, ruB, ruC, ruE, ruD, lenStr, Int.reduceBEq, Int.reduceBNe, e]
    exact Ev.pure _
  | succ k ih =>
    intro n hn hj
    refine Ev.step (fun n m => f44_L0.eq_2 _ _ _ _ _ _ m) ?_
    have e : ((n : Int) < 16) = True := by simp only [eq_iff_iff, iff_true]; omega
    simp only [ruA, ruB, ruC, ruE, ruD, lenStr, Int.reduceBEq, Int.reduceBNe, e]
    refine Ev.callC (digit_ok (by omega) H) ?_
    by_cases hc : hexD n = c
    · have hv : hexV c = (n : Int) := by rw [← hc]; exact hexV_of (by omega)
      have hb : (((hexD n).toNat : Int) == (c.toNat : Int)) = true := by rw [hc]; simp
      rw [hv]
      simp only [ruA, ruB, ruC, ruE, ruD, lenStr, Int.reduceBEq, Int.reduceBNe, hb]
      exact Ev.pure _
    · have hb : (((hexD n).toNat : Int) == (c.toNat : Int)) = false := by
        have : (hexD n).toNat ≠ c.toNat := fun e => hc (UInt8.toNat_inj.1 e)
        exact beq_false_of_ne (by omega)
      simp only [ruA, ruB, ruC, ruE, ruD, lenStr, Int.reduceBEq, Int.reduceBNe, hb, idx_up (show n < 9223372036854775807 by omega)]
      exact ih (n + 1) (by omega) fun j hj' => by
        rcases Nat.lt_or_ge j n with h | h
        · exact hj j h
        · obtain rfl : j = n := by omega
          exact hc
theorem worth_ok (c : UInt8) (H : Heap) : Cl 44 [.int .u8 (c.toNat : Int)] H (.int .i64 (hexV c)) H := by
  refine Ev.enter (fun n => f44_eq rfl n _ _) ?_
  simp only [f44]
  exact Ev.loop (worth_loop c H 16 0 (by omega) (fun j hj => by omega))

/-! ### written -/
theorem q16 {i : Nat} (h : i < 9223372036854775808) : binB Try.prog .quo 3 (.int .i64 (i : Int)) (.int .i64 16) = some (.int .i64 ((i / 16 : Nat) : Int)) := by
  rw [b_quo (by decide), Int.tdiv_eq_ediv_of_nonneg (by omega), wrap_i64 (by omega) (by omega)]; rfl
theorem r16 {i : Nat} : binB Try.prog .rem 3 (.int .i64 (i : Int)) (.int .i64 16) = some (.int .i64 ((i % 16 : Nat) : Int)) := by
  rw [b_rem (by decide), Int.tmod_eq_emod_of_nonneg (by omega)]; rfl
theorem cv64_8 {k : Nat} (h : k < 9223372036854775808) {H : Heap} : cvI .i64 (.int .u8 (k : Int)) H = some (.int .i64 (k : Int), H) := by
  simp only [cvI]; rw [wrap_i64 (by omega) (by omega)]
theorem bld2b {H : Heap} {a b : Nat} : bldS 1 2 [.int .u8 0] [(0, 1, .int .u8 (a : Int)), (1, 1, .int .u8 (b : Int))] H = some (.slice (some ⟨H.n, 0, none⟩) 2 2, H.push ⟨B [a, b], 1, true⟩) := by rfl
section
variable {H0 : Heap} {b : Nat} {ds : List UInt8} (hd : ds.length = 32)
include hd
theorem hexr_loop : ∀ (k i : Nat) (v : Value) (H : Heap), i + k = 32 → Keep (all H0) H0 H → H.get b = some ⟨B (U ds), 1, true⟩ → b < H0.n → Acc (all H0) H 1 v (2 * i) (B (U (hexL (ds.take i)))) →
    ∃ H', Ev (fun n m => f28_L0 real (AC n) n m (ptr b 0) v (.int .i64 (i : Int)) H) (.string (bs (hexL ds)), H') ∧ Keep (all H0) H0 H' := by
  intro k
  induction k with
  | zero =>
    intro i v H hi hk hb hlt hA
    obtain rfl : i = 32 := by omega
    have ht : ds.take 32 = ds := by rw [← hd, List.take_length]
    rw [ht] at hA
    refine ⟨H, Ev.step (fun n m => f28_L0.eq_2 _ _ _ _ _ _ _ m) ?_, hk⟩
    have e : (((32 : Nat) : Int) < 32) = False := by simp
    have hs : toStr v H = some (.string (strOf (U (hexL ds))), H) := toStr_sl hA.sl
    have hst : strOf (U (hexL ds)) = bs (hexL ds) := by
      simp only [strOf, bs, U, List.map_map]
      rw [show (UInt8.ofNat ∘ UInt8.toNat) = id from funext fun x => UInt8.ofNat_toNat, List.map_id]
    rw [hst] at hs
    simp only [ruA, ruB, ruC, ruE, ruD, lenStr, Int.reduceBEq, Int.reduceBNe, e, hs]
    exact Ev.pure _
  | succ k ih =>
    intro i v H hi hk hb hlt hA
    obtain ⟨x, hx, _⟩ := drop_at (l := ds) (i := i) (by omega)
    have hx256 := x.toNat_lt
    have hUx : (U ds)[i]? = some x.toNat := by simp [U, hx]
    have hbl : ldC (ptr b i) H = some (.int .u8 (x.toNat : Int), H) := ldG hb (B_at hUx)
    obtain ⟨p, hp⟩ : ∃ p, [(hexD (x.toNat / 16)).toNat, (hexD (x.toNat % 16)).toNat] = p := ⟨_, rfl⟩
    obtain ⟨H1, hH1⟩ : ∃ H1, H.push ⟨B p, 1, true⟩ = H1 := ⟨_, rfl⟩
    have hRb : Rb (all H0) H := (Rb.all H0).mono hk.1
    have hA1 : Acc (all H0) H1 1 v (2 * i) (B (U (hexL (ds.take i)))) := by rw [← hH1]; exact hA.push
    have hadd : addend 1 (.slice (some ⟨H.n, 0, none⟩) 2 2) H1 = some (2, B p) := by
      rw [← hH1]
      exact addend_push (by rw [← hp]; rfl)
    have hn1 : H1.n = H.n + 1 := by rw [← hH1]; rfl
    obtain ⟨v', H2, a1, a2, a3⟩ := hA1.app (by_ := 1) (hRb.mono (by omega)) hadd (by rw [← hp]; rfl) (by have : mostBytes = 140737488355328 := rfl; omega)
    have k1 : Keep (all H0) H0 H1 := by rw [← hH1]; exact hk.trans (Keep.push hRb)
    have k2 : Keep (all H0) H0 H2 := k1.trans a3
    have hb2 : H2.get b = some ⟨B (U ds), 1, true⟩ := by rw [a3.2 b hlt, ← hH1, push_lt (by have := hk.1; omega)]; exact hb
    have ht : hexL (ds.take (i + 1)) = hexL (ds.take i) ++ [hexD (x.toNat / 16)] ++ [hexD (x.toNat % 16)] := by rw [List.take_add_one, hx]; exact hexL_snoc _ _
    have hBU : B (U (hexL (ds.take i))) ++ B p = B (U (hexL (ds.take (i + 1)))) := by
      rw [ht, ← B_append, ← hp]; simp [U]
    rw [hBU, show 2 * i + 2 = 2 * (i + 1) by omega] at a2
    obtain ⟨H3, c3, k3⟩ := ih (i + 1) v' H2 (by omega) k2 hb2 hlt a2
    refine ⟨H3, Ev.step (fun n m => f28_L0.eq_2 _ _ _ _ _ _ _ m) ?_, k3⟩
    have e : ((i : Int) < 32) = True := by simp only [eq_iff_iff, iff_true]; omega
    have bl : bldS 1 2 [.int .u8 0] [(0, 1, .int .u8 ((hexD (x.toNat / 16)).toNat : Int)), (1, 1, .int .u8 ((hexD (x.toNat % 16)).toNat : Int))] H = some (.slice (some ⟨H.n, 0, none⟩) 2 2, H1) := by
      rw [bld2b, hp, hH1]
    simp only [ruA, ruB, ruC, ruE, ruD, lenStr, Int.reduceBEq, Int.reduceBNe, e, iA (show i < 32 by omega), hbl, cv64_8 (show x.toNat < 9223372036854775808 by omega), q16 (show x.toNat < 9223372036854775808 by omega)]
    refine Ev.callC (digit_ok (by omega) H) ?_
    simp only [ruA, ruB, ruC, ruE, ruD, lenStr, Int.reduceBEq, Int.reduceBNe, same_refl, Bool.and_true, hbl, cv64_8 (show x.toNat < 9223372036854775808 by omega), r16]
    refine Ev.callC (digit_ok (by omega) H) ?_
    simp only [ruA, ruB, ruC, ruE, ruD, lenStr, Int.reduceBEq, Int.reduceBNe, bl, a1, idx_up (show i < 9223372036854775807 by omega)]
    exact c3
theorem hexr_ok (H : Heap) : ∃ H', Cl 28 [.agg (B (U ds)).toArray] H (.string (bs (hexL ds))) H' ∧ Keep (all H) H H' := by
  obtain ⟨H1, hH1⟩ : ∃ H1, H.push ⟨B (U ds), 1, true⟩ = H1 := ⟨_, rfl⟩
  have n1 : H1.n = H.n + 1 := by rw [← hH1]; rfl
  have k1 : Keep (all H) H H1 := by rw [← hH1]; exact push_keep
  obtain ⟨H2, c2, k2⟩ := hexr_loop (H0 := H1) (b := H.n) hd 32 0 nilS H1 (by omega) (Keep.refl _ _) (by rw [← hH1]; exact push_self) (by omega) Acc.nil
  refine ⟨H2, Ev.enter (fun n => f28_eq rfl n _ _) ?_, k1.trans (k2.mono (upA k1))⟩
  simp only [f28, ruA, newA (B_one (U ds)), hH1]
  exact Ev.loop c2
end
/-! ### read -/
section
variable {K : Heap} {b2 : Nat} {l : List UInt8} (hl : l.length = 64) (h2 : K.get b2 = some ⟨B (List.replicate 32 0), 1, true⟩) (hb2 : b2 < K.n)
include hl h2 hb2
theorem rparse_loop : ∀ (k : Nat) (done : List Nat), done.length + k = 32 →
    ∃ H', Ev (fun n m => f26_L0 real (AC n) n m (.string (bs l)) (ptr b2 0) (ptr K.n 0) (.int .i64 (done.length : Int)) (K.push ⟨B (pad32 done), 1, true⟩))
      (.tuple #[.agg (B (resP done (parL (l.drop (2 * done.length)))).1).toArray, .int .i64 (resP done (parL (l.drop (2 * done.length)))).2], H') ∧ Keep (fun b => b < K.n ∧ b ≠ b2) K H' := by
  have hz32 : (B (List.replicate 32 0)).length = 32 := by rw [B_length, List.length_replicate]
  have hg : ∀ cs : List Value, (K.push ⟨cs, 1, true⟩).get b2 = some ⟨B (List.replicate 32 0), 1, true⟩ := fun cs => by rw [push_lt hb2]; exact h2
  have hkp : ∀ (cs : List Value) (x : Option Blk), Keep (fun b => b < K.n ∧ b ≠ b2) K ((K.push ⟨cs, 1, true⟩).upd b2 x) := fun cs x =>
    (Keep.push fun b hb => hb.1).trans (Keep.upd fun h => h.2 rfl)
  intro k
  induction k with
  | zero =>
    intro done hd
    have e0 : l.drop (2 * done.length) = [] := List.drop_eq_nil_of_le (by omega)
    have e : ((done.length : Int) < 32) = False := by simp only [eq_iff_iff, iff_false]; omega
    have h32 : (B done).length = 32 := by rw [B_length]; omega
    rw [e0, pad32_all (by omega)]
    refine ⟨_, Ev.step (fun n m => f26_L0.eq_2 _ _ _ _ _ _ _ _ m) ?_, hkp (B done) (some ⟨B done, 1, true⟩)⟩
    simp only [ruA, ruB, ruC, ruE, ruD, lenStr, Int.reduceBEq, Int.reduceBNe, e, ldA_push h32.symm, stG (hg _) hz32 h32 (B_one _), ldAG (H := (K.push ⟨B done, 1, true⟩).upd b2 (some ⟨B done, 1, true⟩)) upd_self h32, Option.map_some, resM2, one2, parL, resP, List.append_nil]
    exact Ev.pure _
  | succ k ih =>
    intro done hd
    obtain ⟨a, ha, ea⟩ := drop_at (l := l) (i := 2 * done.length) (by omega)
    obtain ⟨b, hb, eb⟩ := drop_at (l := l) (i := 2 * done.length + 1) (by omega)
    have e : ((done.length : Int) < 32) = True := by simp only [eq_iff_iff, iff_true]; omega
    have hpl := pad32_len (l := done) (by omega)
    rw [ea, eb]
    have w1 := worth_ok a (K.push ⟨B (pad32 done), 1, true⟩)
    have w2 := worth_ok b (K.push ⟨B (pad32 done), 1, true⟩)
    have m2 : binB Try.prog .mul 3 (.int .i64 2) (.int .i64 (done.length : Int)) = some (.int .i64 ((2 * done.length : Nat) : Int)) := by
      rw [b_mul, show ((2 : Int) * (done.length : Int)) = ((2 * done.length : Nat) : Int) by omega, wrap_i64 (by omega) (by omega)]
    have ways : (∃ H', Ev (fun n m => f26_L0 real (AC n) n m (.string (bs l)) (ptr b2 0) (ptr K.n 0) (.int .i64 (done.length : Int)) (K.push ⟨B (pad32 done), 1, true⟩)) (.tuple #[.agg (B (List.replicate 32 0)).toArray, .int .i64 4], H') ∧ Keep (fun b => b < K.n ∧ b ≠ b2) K H' ∧ (hexV a < 0 ∨ hexV b < 0)) ∨ ∃ x y : Nat, x < 16 ∧ y < 16 ∧ hexV a = (x : Int) ∧ hexV b = (y : Int) := by
      rcases hexV_or a with va | ⟨x, x16, vx, _⟩
      · refine .inl ⟨_, Ev.step (fun n m => f26_L0.eq_2 _ _ _ _ _ _ _ _ m) ?_, hkp (B (pad32 done)) (some ⟨B (List.replicate 32 0), 1, true⟩), .inl (by omega)⟩
        rw [va] at w1
        have hn : ((-1 : Int) < 0) = True := by simp
        simp only [ruA, ruB, ruC, ruE, ruD, lenStr, Int.reduceBEq, Int.reduceBNe, e, m2, idxS_bs ha]
        refine Ev.callC w1 ?_
        simp only [ruA, ruB, ruC, ruE, ruD, lenStr, Int.reduceBEq, Int.reduceBNe, m2, idx_up (show 2 * done.length < 9223372036854775807 by omega), idxS_bs hb]
        refine Ev.callC w2 ?_
        simp only [ruA, ruB, ruC, ruE, ruD, lenStr, Int.reduceBEq, Int.reduceBNe, hn, rep_B, bld32, stG (hg _) hz32 hz32 (B_one _), ldAG (H := (K.push ⟨B (pad32 done), 1, true⟩).upd b2 (some ⟨B (List.replicate 32 0), 1, true⟩)) upd_self hz32, Option.map_some, resM2, one2]
        exact Ev.pure _
      · rcases hexV_or b with vb | ⟨y, y16, vy, _⟩
        · refine .inl ⟨_, Ev.step (fun n m => f26_L0.eq_2 _ _ _ _ _ _ _ _ m) ?_, hkp (B (pad32 done)) (some ⟨B (List.replicate 32 0), 1, true⟩), .inr (by omega)⟩
          rw [vx] at w1
          rw [vb] at w2
          have hn : ((-1 : Int) < 0) = True := by simp
          have hx : ((x : Int) < 0) = False := by simp
          simp only [ruA, ruB, ruC, ruE, ruD, lenStr, Int.reduceBEq, Int.reduceBNe, e, m2, idxS_bs ha]
          refine Ev.callC w1 ?_
          simp only [ruA, ruB, ruC, ruE, ruD, lenStr, Int.reduceBEq, Int.reduceBNe, m2, idx_up (show 2 * done.length < 9223372036854775807 by omega), idxS_bs hb]
          refine Ev.callC w2 ?_
          simp only [ruA, ruB, ruC, ruE, ruD, lenStr, Int.reduceBEq, Int.reduceBNe, hx, hn, rep_B, bld32, stG (hg _) hz32 hz32 (B_one _), ldAG (H := (K.push ⟨B (pad32 done), 1, true⟩).upd b2 (some ⟨B (List.replicate 32 0), 1, true⟩)) upd_self hz32, Option.map_some, resM2, one2]
          exact Ev.pure _
        · exact .inr ⟨x, y, x16, y16, vx, vy⟩
    rcases ways with ⟨H', q1, q2, q3⟩ | ⟨x, y, x16, y16, vx, vy⟩
    · have hp : parL (a :: b :: l.drop (2 * done.length + 1 + 1)) = none := by simp only [parL]; rw [if_pos q3]
      rw [hp]
      exact ⟨H', q1, q2⟩
    · rw [vx] at w1
      rw [vy] at w2
      have hx : ((x : Int) < 0) = False := by simp
      have hy : ((y : Int) < 0) = False := by simp
      have hp : parL (a :: b :: l.drop (2 * done.length + 1 + 1)) = (parL (l.drop (2 * done.length + 1 + 1))).map ((16 * x + y) :: ·) := by
        simp only [parL, vx, vy, Int.toNat_natCast]; rw [if_neg (by omega)]
      have hres : resP done (parL (a :: b :: l.drop (2 * done.length + 1 + 1))) = resP (done ++ [16 * x + y]) (parL (l.drop (2 * (done ++ [16 * x + y]).length))) := by
        rw [hp, show 2 * (done ++ [16 * x + y]).length = 2 * done.length + 1 + 1 by simp; omega]
        cases parL (l.drop (2 * done.length + 1 + 1)) with
        | none => rfl
        | some ds => simp [resP]
      rw [hres]
      obtain ⟨H3, c3, k3⟩ := ih (done ++ [16 * x + y]) (by simp; omega)
      refine ⟨H3, Ev.step (fun n m => f26_L0.eq_2 _ _ _ _ _ _ _ _ m) ?_, k3⟩
      have m16 : binB Try.prog .mul 3 (.int .i64 16) (.int .i64 (x : Int)) = some (.int .i64 ((16 * x : Nat) : Int)) := by
        rw [b_mul, show ((16 : Int) * (x : Int)) = ((16 * x : Nat) : Int) by omega, wrap_i64 (by omega) (by omega)]
      have a16 : IntKind.i64.wrap (((16 * x : Nat) : Int) + (y : Int)) = ((16 * x + y : Nat) : Int) := by rw [wrap_i64 (by omega) (by omega)]; omega
      have hs := stb (H := K) (l := pad32 done) (i := done.length) (x := 16 * x + y) (by omega)
      rw [pad32_set (by omega)] at hs
      rw [show (done ++ [16 * x + y]).length = done.length + 1 by simp] at c3 ⊢
      simp only [ruA, ruB, ruC, ruE, ruD, lenStr, Int.reduceBEq, Int.reduceBNe, e, m2, idxS_bs ha]
      refine Ev.callC w1 ?_
      simp only [ruA, ruB, ruC, ruE, ruD, lenStr, Int.reduceBEq, Int.reduceBNe, m2, idx_up (show 2 * done.length < 9223372036854775807 by omega), idxS_bs hb]
      refine Ev.callC w2 ?_
      simp only [ruA, ruB, ruC, ruE, ruD, lenStr, Int.reduceBEq, Int.reduceBNe, hx, hy, m16, a16, cv8n (show 16 * x + y < 256 by omega), iA (show done.length < 32 by omega), hs, idx_up (show done.length < 9223372036854775807 by omega)]
      exact c3
end
theorem rparse_ok (l : List UInt8) (H : Heap) : ∃ H', Cl 26 [.string (bs l)] H (.tuple #[.agg (B (parR l).1).toArray, .int .i64 (parR l).2]) H' ∧ Keep (all H) H H' := by
  have hz32 : (B (List.replicate 32 0)).length = 32 := by rw [B_length, List.length_replicate]
  have hsz : ((bs l).size : Int) = (l.length : Int) := by simp [bs, ByteArray.size]
  by_cases hl : l.length = 64
  · have hne : (((bs l).size : Int) != 64) = false := by rw [hsz]; simp; omega
    obtain ⟨K, hK⟩ : ∃ K, H.push ⟨B (List.replicate 32 0), 1, true⟩ = K := ⟨_, rfl⟩
    have n1 : K.n = H.n + 1 := by rw [← hK]; rfl
    obtain ⟨H', c, kk⟩ := rparse_loop (K := K) (b2 := H.n) hl (by rw [← hK]; exact push_self) (by omega) 32 [] (by simp)
    have hres : resP [] (parL (l.drop (2 * ([] : List Nat).length))) = parR l := by
      unfold parR
      rw [if_pos hl, show l.drop (2 * ([] : List Nat).length) = l by simp]
      cases parL l <;> rfl
    rw [hres] at c
    have hp0 : pad32 [] = List.replicate 32 0 := rfl
    rw [hp0] at c
    have k0 : Keep (all H) H K := by rw [← hK]; exact push_keep
    refine ⟨H', Ev.enter (fun n => f26_eq rfl n _ _) ?_, k0.trans (kk.mono fun b hb => by have : b < H.n := hb; exact ⟨by omega, by omega⟩)⟩
    simp only [f26, ruA, ruB, ruC, ruE, ruD, lenStr, Int.reduceBEq, Int.reduceBNe, rep_B, newV_box (B_one _), hne, hK]
    exact Ev.loop c
  · have hne : (((bs l).size : Int) != 64) = true := by rw [hsz]; simp; omega
    have hres : parR l = (List.replicate 32 0, 4) := by unfold parR; rw [if_neg hl]
    rw [hres]
    refine ⟨H.push ⟨B (List.replicate 32 0), 1, true⟩, Ev.enter (fun n => f26_eq rfl n _ _) ?_, push_keep⟩
    simp only [f26, ruA, ruB, ruC, ruE, ruD, lenStr, Int.reduceBEq, Int.reduceBNe, rep_B, newV_box (B_one _), hne, bld32]
    rw [stA_push hz32 hz32 (B_one _)]
    simp only [ruA, ruB, ruC, ruE, ruD, lenStr, Int.reduceBEq, Int.reduceBNe]
    rw [ldA_push hz32.symm]
    simp only [Option.map_some, resM2, one2]
    exact Ev.pure _
theorem writes_law {H : Heap} {ds : List UInt8} (hd : ds.length = 32) (l : List UInt8) : ∃ H', Cl 9 [.agg (B (U ds)).toArray, .string (bs l)] H (.bool true) H' := by
  have hU : (B (U ds)).length = 32 := by rw [B_length, U_len, hd]
  have hP : (B (parR l).1).length = 32 := by rw [B_length, parR_len]
  have hz32 : (B (List.replicate 32 0)).length = 32 := by rw [B_length, List.length_replicate]
  obtain ⟨H1, hH1⟩ : ∃ H1, H.push ⟨B (U ds), 1, true⟩ = H1 := ⟨_, rfl⟩
  have n1 : H1.n = H.n + 1 := by rw [← hH1]; rfl
  have g1 : H1.get H.n = some ⟨B (U ds), 1, true⟩ := by rw [← hH1]; exact push_self
  obtain ⟨H2, c2, k2⟩ := parse_ok l H1
  have n2 := k2.1
  obtain ⟨H3, hH3⟩ : ∃ H3, H2.push ⟨B (parR l).1, 1, true⟩ = H3 := ⟨_, rfl⟩
  have n3 : H3.n = H2.n + 1 := by rw [← hH3]; rfl
  obtain ⟨H4, c4, k4⟩ := rparse_ok l H3
  have n4 := k4.1
  obtain ⟨H5, hH5⟩ : ∃ H5, H4.push ⟨B (parR l).1, 1, true⟩ = H5 := ⟨_, rfl⟩
  have n5 : H5.n = H4.n + 1 := by rw [← hH5]; rfl
  have gd : H5.get H.n = some ⟨B (U ds), 1, true⟩ := by
    rw [← hH5, push_lt (by omega), k4.2 _ (show H.n < H3.n by omega), ← hH3, push_lt (by omega), k2.2 _ (show H.n < H1.n by omega)]; exact g1
  have g5 : H5.get H2.n = some ⟨B (parR l).1, 1, true⟩ := by
    rw [← hH5, push_lt (by omega), k4.2 _ (show H2.n < H3.n by omega), ← hH3]; exact push_self
  have g7 : H5.get H4.n = some ⟨B (parR l).1, 1, true⟩ := by rw [← hH5]; exact push_self
  obtain ⟨H6, c6, k6⟩ := hexr_ok hd H5
  have g5' : H6.get H2.n = some ⟨B (parR l).1, 1, true⟩ := by rw [k6.2 _ (show H2.n < H5.n by omega)]; exact g5
  have g7' : H6.get H4.n = some ⟨B (parR l).1, 1, true⟩ := by rw [k6.2 _ (show H4.n < H5.n by omega)]; exact g7
  obtain ⟨H', ha, _⟩ := awake_ok H6
  have q2 := eq_bytes (parR_len l) (parR_byte l)
  have se : ((bs (hexL ds)).toList == (bs (hexL ds)).toList) = true := by rw [bs_beq]; simp
  have ee : ((parR l).2 == (parR l).2) = true := by simp
  refine ⟨H', Ev.enter (fun n => f9_eq rfl n _ _ _) ?_⟩
  simp only [f9, ruA, ruB, ruC, ruE, ruD, lenStr, Int.reduceBEq, Int.reduceBNe, newA (B_one (U ds)), hH1]
  refine Ev.callC c2 ?_
  simp only [ruA, ruB, ruC, ruE, ruD, lenStr, Int.reduceBEq, Int.reduceBNe, rep_B, newV_box (B_one _)]
  rw [stA_push hz32 hP (B_one _), hH3]
  simp only [ruA, ruB, ruC, ruE, ruD, lenStr, Int.reduceBEq, Int.reduceBNe]
  refine Ev.callC c4 ?_
  simp only [ruA, ruB, ruC, ruE, ruD, lenStr, Int.reduceBEq, Int.reduceBNe, newV_box (B_one _)]
  rw [stA_push hz32 hP (B_one _), hH5]
  simp only [ruA, ruB, ruC, ruE, ruD, lenStr, Int.reduceBEq, Int.reduceBNe, ldAG gd hU]
  refine Ev.callC (hex_cl hd) ?_
  simp only [ruA, ruB, ruC, ruE, ruD, lenStr, Int.reduceBEq, Int.reduceBNe, same_refl, Bool.and_true, ldAG gd hU]
  refine Ev.callC c6 ?_
  simp only [ruA, ruB, ruC, ruE, ruD, lenStr, Int.reduceBEq, Int.reduceBNe, se, ldAG g5' hP, ldAG g7' hP, q2, ee, Bool.not_true, Bool.false_or]
  refine Ev.callC ha ?_
  exact Ev.pure _
end Go.Eng
