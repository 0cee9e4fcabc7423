/- Parse; Parse and Hex take each other back. -/
import Derived.Test.YtmajmmknpajcgaaST
set_option linter.unusedVariables false
set_option linter.unusedSimpArgs false
set_option linter.unusedSectionVars false
set_option maxRecDepth 100000
namespace Go.Eng
open Go Go.Proofs

theorem idxS_bs {l : List UInt8} {i : Nat} {c : UInt8} (h : l[i]? = some c) : idxS (.string (bs l)) (.int .i64 (i : Int)) = some (.int .u8 (c.toNat : Int)) := by
  obtain ⟨h1, h2⟩ := List.getElem?_eq_some_iff.1 h
  simp only [idxS]
  have hs : (bs l).size = l.length := by simp [bs, ByteArray.size]
  have hd : (bs l).data.toList[i]? = some c := by simpa [bs] using h
  rw [if_pos (by omega), Int.toNat_natCast, hd]
  rfl
theorem u8_or {P : Program} {t : TypeId} {a b : Nat} (ha : a < 256) (hb : b < 256) : binB P .or t (.int .u8 (a : Int)) (.int .u8 (b : Int)) = some (.int .u8 ((a ||| b : Nat) : Int)) := by
  rw [b_or]
  have bv8 : ∀ n : Nat, n < 256 → (BitVec.ofInt 8 (n : Int)).toNat = n := fun n h => by simp [BitVec.toNat_ofInt, Nat.mod_eq_of_lt h]
  have h1 : (BitVec.ofInt IntKind.u8.bits (a : Int) ||| BitVec.ofInt IntKind.u8.bits (b : Int)).toNat = a ||| b := by
    rw [BitVec.toNat_or]
    show (BitVec.ofInt 8 (a : Int)).toNat ||| (BitVec.ofInt 8 (b : Int)).toNat = _
    rw [bv8 a ha, bv8 b hb]
  have h2 : a ||| b < 256 := Nat.or_lt_two_pow (n := 8) ha hb
  rw [h1, wrap_u8 (by omega) (by omega)]
theorem u8_shl4 {P : Program} {t : TypeId} {a : Nat} (ha : a < 16) : binB P .shl t (.int .u8 (a : Int)) (.int .u64 4) = some (.int .u8 ((16 * a : Nat) : Int)) := by
  have e : (min (4 : Int).toNat IntKind.u8.bits) = 4 := rfl
  simp only [binB, shiftB]
  rw [if_neg (by omega), e, show ((a : Int) * 2 ^ 4) = ((16 * a : Nat) : Int) by omega, wrap_u8 (by omega) (by omega)]
theorem or16 {a b : Nat} (hb : b < 16) : 16 * a ||| b = 16 * a + b := (Nat.two_pow_add_eq_or_of_lt (i := 4) hb a).symm
theorem q2 {i : Nat} (h : i < 9223372036854775808) : binB Try.prog .quo 3 (.int .i64 (i : Int)) (.int .i64 2) = some (.int .i64 ((i / 2 : Nat) : Int)) := by
  rw [b_quo (by decide), Int.tdiv_eq_ediv_of_nonneg (by omega), wrap_i64 (by omega) (by omega)]; rfl
theorem cv8n {k : Nat} (h : k < 256) {H : Heap} : cvI .u8 (.int .i64 (k : Int)) H = some (.int .u8 (k : Int), H) := by
  rw [cvI_u8, show ((k : Int) % 256) = (k : Int) by omega]
theorem ldb {H : Heap} {l : List Nat} {i x : Nat} (h : l[i]? = some x) : ldC (ptr H.n i) (H.push ⟨B l, 1, true⟩) = some (.int .u8 (x : Int), H.push ⟨B l, 1, true⟩) := ldG push_self (B_at h)
theorem stb {H : Heap} {l : List Nat} {i x : Nat} (h : i < l.length) : stV 1 (ptr H.n i) (.int .u8 (x : Int)) (H.push ⟨B l, 1, true⟩) = some (undef, H.push ⟨B (l.set i x), 1, true⟩) := by
  rw [st1_push (by rw [B_length]; exact h) rfl rfl, B_set]
theorem bld32 {H : Heap} : bld (B (List.replicate 32 0)) [] H = some (.agg (B (List.replicate 32 0)).toArray, H) := rfl
/-- A list of 32, of which the first are known. -/
def pad32 (l : List Nat) : List Nat := l ++ List.replicate (32 - l.length) 0
theorem pad32_len {l : List Nat} (h : l.length ≤ 32) : (pad32 l).length = 32 := by simp [pad32]; omega
theorem pad32_zero {l : List Nat} (h : l.length < 32) : (pad32 l)[l.length]? = some 0 := by
  rw [pad32, List.getElem?_append_right (Nat.le_refl _), List.getElem?_replicate, if_pos (by omega)]
theorem pad32_set {l : List Nat} (h : l.length < 32) (x : Nat) : (pad32 l).set l.length x = pad32 (l ++ [x]) := by
  obtain ⟨k, hk⟩ : ∃ k, 32 - l.length = k + 1 := ⟨31 - l.length, by omega⟩
  have hk2 : 32 - (l ++ [x]).length = k := by simp; omega
  rw [pad32, pad32, hk, hk2, List.replicate_succ, List.set_append_right (h := Nat.le_refl _)]
  simp
theorem pad32_all {l : List Nat} (h : l.length = 32) : pad32 l = l := by simp [pad32, h]
def resP (done : List Nat) (o : Option (List Nat)) : List Nat × Int := match o with
  | some ds => (done ++ ds, 0)
  | none => (List.replicate 32 0, 4)
section
variable {H : Heap} {l : List UInt8} (hl : l.length = 64)
include hl
theorem parse_loop : ∀ (k : Nat) (done : List Nat), done.length + k = 32 →
    Ev (fun n m => f25_L0 real (AC n) n m (.string (bs l)) (ptr H.n 0) (.int .i64 64) (.int .i64 ((2 * done.length : Nat) : Int)) (H.push ⟨B (pad32 done), 1, true⟩))
      (.tuple #[.agg (B (resP done (parL (l.drop (2 * done.length)))).1).toArray, .int .i64 (resP done (parL (l.drop (2 * done.length)))).2], H.push ⟨B (resP done (parL (l.drop (2 * done.length)))).1, 1, true⟩) := by
  have hz32 : (B (List.replicate 32 0)).length = 32 := by rw [B_length, List.length_replicate]
  intro k
  induction k with
  | zero =>
    intro done hd
    have e0 : l.drop (2 * done.length) = [] := List.drop_eq_nil_of_le (by omega)
    refine Ev.step (fun n m => f25_L0.eq_2 _ _ _ _ _ _ _ _ m) ?_
    have e : (((2 * done.length : Nat) : Int) < 64) = False := by simp only [eq_iff_iff, iff_false]; omega
    have h32 : (B done).length = 32 := by rw [B_length]; omega
    rw [e0, pad32_all (by omega)]
    simp only [ruA, ruB, ruC, ruE, ruD, lenStr, Int.reduceBEq, Int.reduceBNe, e, ldA_push h32.symm, stA_push h32 h32 (B_one _), Option.map_some, resM2, one2, parL, resP, List.append_nil]
    exact Ev.pure _
  | succ k ih =>
    intro done hd
    obtain ⟨a, ha, ea⟩ := drop_at (l := l) (i := 2 * done.length) (by omega)
    obtain ⟨b, hb, eb⟩ := drop_at (l := l) (i := 2 * done.length + 1) (by omega)
    have e : (((2 * done.length : Nat) : Int) < 64) = True := by simp only [eq_iff_iff, iff_true]; omega
    have e' : (((2 * done.length + 1 : Nat) : Int) < 64) = True := by simp only [eq_iff_iff, iff_true]; omega
    have hpl := pad32_len (l := done) (by omega)
    rw [ea, eb]
    have bad : ∀ {cs : List Nat}, cs.length = 32 → stV 32 (ptr H.n 0) (.agg (B (List.replicate 32 0)).toArray) (H.push ⟨B cs, 1, true⟩) = some (undef, H.push ⟨B (List.replicate 32 0), 1, true⟩) := fun {cs} h => stA_push (by rw [B_length]; exact h) hz32 (B_one _)
    rcases hexV_or a with va | ⟨x, x16, vx, _⟩
    · have hp : parL (a :: b :: l.drop (2 * done.length + 1 + 1)) = none := by simp only [parL, va]; rw [if_pos (by omega)]
      rw [hp]
      have hi := index_cl a (H.push ⟨B (pad32 done), 1, true⟩)
      rw [va] at hi
      have hn : ((-1 : Int) < 0) = True := by simp
      refine Ev.step (fun n m => f25_L0.eq_2 _ _ _ _ _ _ _ _ m) ?_
      simp only [ruA, ruB, ruC, ruE, ruD, lenStr, Int.reduceBEq, Int.reduceBNe, e, idxS_bs ha]
      refine Ev.callC hi ?_
      simp only [ruA, ruB, ruC, ruE, ruD, lenStr, Int.reduceBEq, Int.reduceBNe, hn, rep_B, bld32, bad hpl, ldA_push hz32.symm, Option.map_some, resM2, one2, resP]
      exact Ev.pure _
    · have hi := index_cl a (H.push ⟨B (pad32 done), 1, true⟩)
      rw [vx] at hi
      have hn : ((x : Int) < 0) = False := by simp
      have hd1 : 2 * done.length / 2 = done.length := by omega
      have hd2 : (2 * done.length + 1) / 2 = done.length := by omega
      have hs1 := stb (H := H) (l := pad32 done) (i := done.length) (x := x) (by omega)
      rw [pad32_set (by omega)] at hs1
      have l0 := ldb (H := H) (pad32_zero (l := done) (by omega))
      have s0 : binB Try.prog .shl 5 (.int .u8 ((0 : Nat) : Int)) (.int .u64 4) = some (.int .u8 ((0 : Nat) : Int)) := u8_shl4 (a := 0) (by omega)
      have o0 : binB Try.prog .or 5 (.int .u8 ((0 : Nat) : Int)) (.int .u8 (x : Int)) = some (.int .u8 (x : Int)) := by rw [u8_or (by omega) (by omega), Nat.zero_or]
      refine Ev.step (fun n m => f25_L0.eq_2 _ _ _ _ _ _ _ _ m) ?_
      simp only [ruA, ruB, ruC, ruE, ruD, lenStr, Int.reduceBEq, Int.reduceBNe, e, idxS_bs ha]
      refine Ev.callC hi ?_
      simp only [ruA, ruB, ruC, ruE, ruD, lenStr, Int.reduceBEq, Int.reduceBNe, hn, q2 (show 2 * done.length < 9223372036854775808 by omega), hd1, iA (show done.length < 32 by omega), l0, s0, cv8n (show x < 256 by omega), o0, hs1, idx_up (show 2 * done.length < 9223372036854775807 by omega)]
      have hpl1 := pad32_len (l := done ++ [x]) (by simp; omega)
      rcases hexV_or b with vb | ⟨y, y16, vy, _⟩
      · have hp : parL (a :: b :: l.drop (2 * done.length + 1 + 1)) = none := by simp only [parL, vb]; rw [if_pos (by omega)]
        rw [hp]
        have hi2 := index_cl b (H.push ⟨B (pad32 (done ++ [x])), 1, true⟩)
        rw [vb] at hi2
        have hn2 : ((-1 : Int) < 0) = True := by simp
        refine Ev.step (fun n m => f25_L0.eq_2 _ _ _ _ _ _ _ _ m) ?_
        simp only [ruA, ruB, ruC, ruE, ruD, lenStr, Int.reduceBEq, Int.reduceBNe, e', idxS_bs hb]
        refine Ev.callC hi2 ?_
        simp only [ruA, ruB, ruC, ruE, ruD, lenStr, Int.reduceBEq, Int.reduceBNe, hn2, rep_B, bld32, bad hpl1, ldA_push hz32.symm, Option.map_some, resM2, one2, resP]
        exact Ev.pure _
      · have hi2 := index_cl b (H.push ⟨B (pad32 (done ++ [x])), 1, true⟩)
        rw [vy] at hi2
        have hn2 : ((y : Int) < 0) = False := by simp
        have l1 : (pad32 (done ++ [x]))[done.length]? = some x := by
          rw [pad32, List.getElem?_append_left (by simp), List.getElem?_append_right (Nat.le_refl _), Nat.sub_self]; rfl
        have l1' := ldb (H := H) l1
        have s1 := u8_shl4 (P := Try.prog) (t := 5) x16
        have o1 : binB Try.prog .or 5 (.int .u8 ((16 * x : Nat) : Int)) (.int .u8 (y : Int)) = some (.int .u8 ((16 * x + y : Nat) : Int)) := by rw [u8_or (by omega) (by omega), or16 y16]
        have hs2 := stb (H := H) (l := pad32 (done ++ [x])) (i := done.length) (x := 16 * x + y) (by omega)
        have hset : (pad32 (done ++ [x])).set done.length (16 * x + y) = pad32 (done ++ [16 * x + y]) := by
          rw [← pad32_set (by omega) x, List.set_set, pad32_set (by omega)]
        rw [hset] at hs2
        have hp : parL (a :: b :: l.drop (2 * done.length + 1 + 1)) = (parL (l.drop (2 * done.length + 1 + 1))).map ((16 * x + y) :: ·) := by
          simp only [parL, vx, vy, Int.toNat_natCast]; rw [if_neg (by omega)]
        have hres : resP done (parL (a :: b :: l.drop (2 * done.length + 1 + 1))) = resP (done ++ [16 * x + y]) (parL (l.drop (2 * (done ++ [16 * x + y]).length))) := by
          rw [hp, show 2 * (done ++ [16 * x + y]).length = 2 * done.length + 1 + 1 by simp; omega]
          cases parL (l.drop (2 * done.length + 1 + 1)) with
          | none => rfl
          | some ds => simp [resP]
        rw [hres]
        have hx := ih (done ++ [16 * x + y]) (by simp; omega)
        rw [show 2 * (done ++ [16 * x + y]).length = 2 * done.length + 1 + 1 by simp; omega] at hx ⊢
        refine Ev.step (fun n m => f25_L0.eq_2 _ _ _ _ _ _ _ _ m) ?_
        simp only [ruA, ruB, ruC, ruE, ruD, lenStr, Int.reduceBEq, Int.reduceBNe, e', idxS_bs hb]
        refine Ev.callC hi2 ?_
        simp only [ruA, ruB, ruC, ruE, ruD, lenStr, Int.reduceBEq, Int.reduceBNe, hn2, q2 (show 2 * done.length + 1 < 9223372036854775808 by omega), hd2, iA (show done.length < 32 by omega), l1', s1, cv8n (show y < 256 by omega), o1, hs2, idx_up (show 2 * done.length + 1 < 9223372036854775807 by omega)]
        exact hx
end
theorem parse_ok (l : List UInt8) (H : Heap) : ∃ H', Cl 25 [.string (bs l)] H (.tuple #[.agg (B (parR l).1).toArray, .int .i64 (parR l).2]) H' ∧ Keep (all H) H H' := by
  refine ⟨H.push ⟨B (parR l).1, 1, true⟩, Ev.enter (fun n => f25_eq rfl n _ _) ?_, push_keep⟩
  have hz32 : (B (List.replicate 32 0)).length = 32 := by rw [B_length, List.length_replicate]
  have hls : lenStr (.string (bs l)) = some (.int .i64 (l.length : Int)) := by simp [Eng.lenStr, bs, ByteArray.size]
  by_cases hl : l.length = 64
  · have hne : ((l.length : Int) != 64) = false := by simp; omega
    have h := parse_loop (H := H) hl 32 [] (by simp)
    have hres : resP [] (parL (l.drop (2 * ([] : List Nat).length))) = parR l := by
      unfold parR
      rw [if_pos hl, show l.drop (2 * ([] : List Nat).length) = l by simp]
      cases parL l <;> rfl
    rw [hres] at h
    have hp0 : pad32 [] = List.replicate 32 0 := rfl
    rw [hp0] at h
    simp only [f25, ruA, rep_B, newV_box (B_one _), hls, ruC Try.prog 3 .i64, hne]
    rw [hl]
    exact Ev.loop h
  · have hne : ((l.length : Int) != 64) = true := by simp; omega
    have hres : parR l = (List.replicate 32 0, 4) := by unfold parR; rw [if_neg hl]
    rw [hres]
    simp only [f25, ruA, rep_B, newV_box (B_one _), hls, ruC Try.prog 3 .i64, hne, bld32]
    rw [stA_push hz32 hz32 (B_one _)]
    simp only [ruA]
    rw [ldA_push hz32.symm]
    simp only [Option.map_some, resM2, one2]
    exact Ev.pure _
end Go.Eng
