import Derived.Test.YtimhmmeoliagjaaDoorZK
set_option linter.unusedVariables false
set_option linter.unusedSimpArgs false
set_option linter.unusedSectionVars false
set_option maxRecDepth 100000
namespace Go.Eng
open Go Go.Proofs
open Tryd (prog)

theorem rhas (s : Nat) {c : Nat} (hc : c < 256) (G : Heap) : ∃ H', ClX 62 [.agg (SC s).toArray, .int .u8 (c : Int)] G (.bool (s.testBit c)) H' ∧ Keep (all G) G H' :=
 rhas_ok (H := G) (T := []) (vt := .slice none 0 0) (by simp) (by simp) Sl.nil s hc G
theorem rwith_ok (s : Nat) {c : Nat} (hc : c < 256) (H : Heap) : ∃ H', ClX 93 [.agg (SC s).toArray, .int .u8 (c : Int)] H (.agg (SC (s ||| 2 ^ c)).toArray) H' ∧ Keep (all H) H H' := by
 obtain ⟨H1, hH1⟩ : ∃ H1, (H.push ⟨SC s, 1, true⟩).push ⟨SC 0, 1, true⟩ = H1 := ⟨_, rfl⟩
 have n1 : H1.n = H.n + 2 := by rw [← hH1]; rfl
 have k1 : Keep (all H) H H1 := by rw [← hH1]; exact push_keep.trans (push_keep.mono (upA push_keep))
 have g1 : H1.get H.n = some ⟨SC s, 1, true⟩ := by rw [← hH1, push_lt (by simp [push_n])]; exact push_self
 have g2 : H1.get (H.n + 1) = some ⟨SC 0, 1, true⟩ := by rw [← hH1]; exact push_self
 obtain ⟨H2, hH2⟩ : ∃ H2, H1.upd H.n (some ⟨SC (s ||| 2 ^ c), 1, true⟩) = H2 := ⟨_, rfl⟩
 have hw : 2 ^ (c % 64) < 18446744073709551616 := Nat.pow_lt_pow_right (by omega) (show c % 64 < 64 by omega)
 have st : stV 1 (ptr H.n (c / 64)) (.int .u64 ((wrd s (c / 64) ||| 2 ^ (c % 64) : Nat) : Int)) H1 = some (undef, H2) := by
  rw [stV1_box g1 (by show c / 64 < 4; omega) rfl rfl, SC_or hc, hH2]
 have g3 : H2.get H.n = some ⟨SC (s ||| 2 ^ c), 1, true⟩ := by rw [← hH2]; exact upd_self
 have g4 : H2.get (H.n + 1) = some ⟨SC 0, 1, true⟩ := by rw [← hH2, upd_ne (by omega)]; exact g2
 obtain ⟨H3, hH3⟩ : ∃ H3, H2.upd (H.n + 1) (some ⟨SC (s ||| 2 ^ c), 1, true⟩) = H3 := ⟨_, rfl⟩
 have g5 : H3.get (H.n + 1) = some ⟨SC (s ||| 2 ^ c), 1, true⟩ := by rw [← hH3]; exact upd_self
 have s4 : stV 4 (ptr (H.n + 1) 0) (.agg (SC (s ||| 2 ^ c)).toArray) H2 = some (undef, H3) := by rw [← hH3]; exact stG g4 (SC_len _) (SC_len _) (SC_one _)
 have k2 : Keep (all H) H1 H3 := by
  rw [← hH3, ← hH2]
  exact (Keep.upd (fun h => by have : H.n < H.n := h; omega)).trans (Keep.upd (fun h => by have : H.n + 1 < H.n := h; omega))
 refine ⟨H3, Ev.enter (fun n => f93_eq rfl n _ _ _) ?_, k1.trans k2⟩
 simp only [f93, ruA, newA (SC_one s)]
 rw [SC_zero]
 simp only [ruZ, Int.reduceBEq, Int.reduceBNe, newV_box (SC_one _), push_n, hH1, u8_q64 hc, iA (show c / 64 < 4 by omega), ldG g1 (W4_at _ (i := c / 64) (by omega)), u8_r64, u64_one (show c % 64 < 64 by omega), u64_or (wrd_lt _ _) hw, st, ldAG g3 (SC_len _), s4, ldAG g5 (SC_len _), Option.map_some, resM1, one1]
 exact Ev.pure _
theorem cv8 {c : Nat} (hc : c < 256) (H : Heap) : cvI .u8 (.int .i64 (c : Int)) H = some (.int .u8 (c : Int), H) := by
 rw [cvI_u8]; congr 3; omega
def setUp (s c : Nat) : List Nat := (List.range c).filter s.testBit
theorem setUp_succ (s c : Nat) : setUp s (c + 1) = if s.testBit c then setUp s c ++ [c] else setUp s c := by
 unfold setUp
 rw [List.range_succ, List.filter_append]
 split <;> rename_i h <;> simp [h]
theorem setUp_len (s c : Nat) : (setUp s c).length ≤ c := Nat.le_trans (List.length_filter_le _ _) (by simp)
theorem all_loop {H0 : Heap} {s q : Nat} (hq : q < H0.n) (gq : H0.get q = some ⟨SC s, 1, true⟩) : ∀ (d c : Nat) (v : Value) (H : Heap), c + d = 256 → Keep (all H0) H0 H → Acc (all H0) H 1 v (setUp s c).length (B (setUp s c)) →
  ∃ v' H', Ev (fun n m => f79_L0 real (AX n) n m (ptr q 0) v (.int .i64 (c : Int)) H) (v', H') ∧ Acc (all H0) H' 1 v' (setL s).length (B (setL s)) ∧ Keep (all H0) H0 H' := by
 intro d
 induction d with
 | zero =>
  intro c v H hc kH hA
  obtain rfl : c = 256 := by omega
  refine ⟨v, H, Ev.step (fun n m => f79_L0.eq_2 _ _ _ _ _ _ _ m) ?_, by rw [setL_eq]; exact hA, kH⟩
  have e : (((256 : Nat) : Int) < 256) = False := by simp
  simp only [ruZ, Int.reduceBEq, Int.reduceBNe, e]
  exact Ev.pure _
 | succ d ih =>
  intro c v H hc kH hA
  have hc256 : c < 256 := by omega
  have e : ((c : Int) < 256) = True := eq_true (by omega)
  have lq : ldA 4 (ptr q 0) H = some (.agg (SC s).toArray, H) := ldAG (by rw [kH.2 _ hq]; exact gq) (SC_len _)
  obtain ⟨H1, c1, k1⟩ := rhas s hc256 H
  have hn0 := kH.1
  have A1 := hA.keep k1
  have kH1 := kH.trans (k1.mono (upA kH))
  by_cases hb : s.testBit c = true
  ·obtain ⟨H2, hH2⟩ : ∃ H2, H1.push ⟨[.int .u8 (c : Int)], 1, true⟩ = H2 := ⟨_, rfl⟩
   have k2 : Keep (all H1) H1 H2 := by rw [← hH2]; exact push_keep
   have hadd : addend 1 (.slice (some ⟨H1.n, 0, none⟩) 1 1) H2 = some (1, [.int .u8 (c : Int)]) := by rw [← hH2]; exact addend_push rfl
   have hmb : mostBytes = 140737488355328 := rfl
   have hl := setUp_len s c
   obtain ⟨v', H3, a1, a2, a3, _⟩ := (A1.keep k2).appQ (by_ := 1) (Nat.le_trans kH1.1 k2.1) hadd rfl (by omega)
   have es : setUp s (c + 1) = setUp s c ++ [c] := by rw [setUp_succ, if_pos hb]
   obtain ⟨w, H', r1, r2, r3⟩ := ih (c + 1) v' H3 (by omega) ((kH1.trans (k2.mono (upA kH1))).trans a3) (by rw [es, List.length_append, show B (setUp s c ++ [c]) = B (setUp s c) ++ [.int .u8 (c : Int)] by simp [B]]; exact a2)
   refine ⟨w, H', Ev.step (fun n m => f79_L0.eq_2 _ _ _ _ _ _ _ m) ?_, r2, r3⟩
   have bl : bldS 1 1 [.int .u8 0] [(0, 1, .int .u8 (c : Int))] H1 = some (.slice (some ⟨H1.n, 0, none⟩) 1 1, H2) := by rw [← hH2]; exact to1
   simp only [ruZ, Int.reduceBEq, Int.reduceBNe, e, lq, cv8 hc256]
   refine Ev.callC c1 ?_
   simp only [ruZ, Int.reduceBEq, Int.reduceBNe, hb, cv8 hc256, bl, a1, f79_J1, idx_up (show c < 9223372036854775807 by omega)]
   exact r1
  ·have es : setUp s (c + 1) = setUp s c := by rw [setUp_succ, if_neg hb]
   obtain ⟨w, H', r1, r2, r3⟩ := ih (c + 1) v H1 (by omega) kH1 (by rw [es]; exact A1)
   refine ⟨w, H', Ev.step (fun n m => f79_L0.eq_2 _ _ _ _ _ _ _ m) ?_, r2, r3⟩
   have hb' : s.testBit c = false := by simpa using hb
   simp only [ruZ, Int.reduceBEq, Int.reduceBNe, e, lq, cv8 hc256]
   refine Ev.callC c1 ?_
   simp only [ruZ, Int.reduceBEq, Int.reduceBNe, hb', f79_J1, idx_up (show c < 9223372036854775807 by omega)]
   exact r1
theorem rall_ok (s : Nat) (H : Heap) : ∃ v H', ClX 79 [.agg (SC s).toArray] H v H' ∧ Sl (all H') H' 1 v (setL s).length (B (setL s)) ∧ Keep (all H) H H' := by
 obtain ⟨H1, hH1⟩ : ∃ H1, H.push ⟨SC s, 1, true⟩ = H1 := ⟨_, rfl⟩
 have n1 : H1.n = H.n + 1 := by rw [← hH1]; rfl
 have k1 : Keep (all H) H H1 := by rw [← hH1]; exact push_keep
 obtain ⟨v, H', r1, r2, r3⟩ := all_loop (H0 := H1) (q := H.n) (s := s) (by omega) (by rw [← hH1]; exact push_self) 256 0 (.slice none 0 0) H1 (by omega) (Keep.refl _ _) Acc.nil
 refine ⟨v, H', Ev.enter (fun n => f79_eq rfl n _ _) ?_, r2.sl, k1.trans (r3.mono (upA k1))⟩
 simp only [f79, ruZ, Int.reduceBEq, Int.reduceBNe, newA (SC_one s), hH1]
 exact Ev.loop r1
def notUp (s : Nat) : Nat → Nat
 | 0 => 0
 | c + 1 => if s.testBit c then notUp s c else notUp s c ||| 2 ^ c
theorem notUp_bit (s d : Nat) : ∀ c, (notUp s c).testBit d = (decide (d < c) && !s.testBit d)
 | 0 => by simp [notUp]
 | c + 1 => by
  rw [notUp]
  by_cases h : s.testBit c
  ·rw [if_pos h, notUp_bit s d c]
   by_cases hd : d = c
   ·subst hd; simp [h]
   ·congr 1
    exact decide_eq_decide.2 (by omega)
  ·rw [if_neg h, Nat.testBit_or, notUp_bit s d c, Nat.testBit_two_pow]
   by_cases hd : d = c
   ·subst hd; simp [h]
   ·simp [Ne.symm hd]
    by_cases h1 : d < c <;> simp [h1, show (d < c + 1) = (d < c) from by simp; omega]
theorem notUp_setL (s : Nat) : setL (notUp s 256) = setL (notS s) := by
 rw [setL_eq, setL_eq]
 apply List.filter_congr
 intro x hx
 rw [List.mem_range] at hx
 rw [notUp_bit, notS_bit]
 simp [hx]
theorem mix_loop {H0 : Heap} {s q3 q4 q6 q7 : Nat} (h3 : q3 < H0.n) (h4 : q4 < H0.n) (g3 : H0.get q3 = some ⟨SC s, 1, true⟩) (g4 : H0.get q4 = some ⟨SC s, 1, true⟩) (l6 : H0.n ≤ q6) (l7 : H0.n ≤ q7) (n67 : q6 ≠ q7) :
  ∀ (d c : Nat) (H : Heap), c + d = 256 → q6 < H.n → q7 < H.n → Keep (all H0) H0 H → H.get q6 = some ⟨SC 0, 1, true⟩ → H.get q7 = some ⟨SC (notUp s c), 1, true⟩ →
  ∃ H', Ev (fun n m => f81_L0 real (AX n) n m (.int .i64 3) (ptr q3 0) (ptr q4 0) (ptr q6 0) (ptr q7 0) (.int .i64 (c : Int)) H) (.agg (SC (notUp s 256)).toArray, H') ∧ Keep (all H0) H0 H' := by
 intro d
 induction d with
 | zero =>
  intro c H hc u6 u7 kH g6 g7
  obtain rfl : c = 256 := by omega
  have e : (((256 : Nat) : Int) < 256) = False := by simp
  obtain ⟨H1, hH1⟩ : ∃ H1, H.upd q6 (some ⟨SC (notUp s 256), 1, true⟩) = H1 := ⟨_, rfl⟩
  have s4 : stV 4 (ptr q6 0) (.agg (SC (notUp s 256)).toArray) H = some (undef, H1) := by rw [← hH1]; exact stG g6 (SC_len _) (SC_len _) (SC_one _)
  have g5 : H1.get q6 = some ⟨SC (notUp s 256), 1, true⟩ := by rw [← hH1]; exact upd_self
  have k1 : Keep (all H0) H H1 := by rw [← hH1]; exact Keep.upd fun h => by have : q6 < H0.n := h; omega
  refine ⟨H1, Ev.step (fun n m => f81_L0.eq_2 _ _ _ _ _ _ _ _ _ _ m) ?_, kH.trans k1⟩
  simp only [ruZ, Int.reduceBEq, Int.reduceBNe, e, ldAG g7 (SC_len _), s4, ldAG g5 (SC_len _), Option.map_some, resM1, one1]
  exact Ev.pure _
 | succ d ih =>
  intro c H hc u6 u7 kH g6 g7
  have hc256 : c < 256 := by omega
  have e : ((c : Int) < 256) = True := eq_true (by omega)
  have lq3 : ldA 4 (ptr q3 0) H = some (.agg (SC s).toArray, H) := ldAG (by rw [kH.2 _ h3]; exact g3) (SC_len _)
  obtain ⟨H1, c1, k1⟩ := rhas s hc256 H
  have kH1 := kH.trans (k1.mono (upA kH))
  have lq4 : ldA 4 (ptr q4 0) H1 = some (.agg (SC s).toArray, H1) := ldAG (by rw [kH1.2 _ h4]; exact g4) (SC_len _)
  obtain ⟨H2, c2, k2⟩ := rhas s hc256 H1
  have kH2 := kH1.trans (k2.mono (upA kH1))
  have hn1 := k1.1
  have hn2 := k2.1
  have g6' : H2.get q6 = some ⟨SC 0, 1, true⟩ := by rw [k2.2 _ (show q6 < H1.n by omega), k1.2 _ (show q6 < H.n from u6)]; exact g6
  have g7' : H2.get q7 = some ⟨SC (notUp s c), 1, true⟩ := by rw [k2.2 _ (show q7 < H1.n by omega), k1.2 _ (show q7 < H.n from u7)]; exact g7
  have sb : sameBlk H H1 (blkOf (ptr q4 0)) = true := blk_keep (Nat.lt_of_lt_of_le h4 kH.1) k1
  have hup := idx_up (show c < 9223372036854775807 by omega)
  have b1 : ((3 : Int) == 1) = false := rfl
  have b2 : ((3 : Int) == 2) = false := rfl
  have b3 : ((3 : Int) == 3) = true := rfl
  by_cases hb : s.testBit c = true
  ·have es : notUp s (c + 1) = notUp s c := by rw [notUp, if_pos hb]
   obtain ⟨H', r1, r2⟩ := ih (c + 1) H2 (by omega) (by omega) (by omega) kH2 g6' (by rw [es]; exact g7')
   refine ⟨H', Ev.step (fun n m => f81_L0.eq_2 _ _ _ _ _ _ _ _ _ _ m) ?_, r2⟩
   simp only [ruZ, Int.reduceBEq, Int.reduceBNe, e, lq3, cv8 hc256]
   refine Ev.callC c1 ?_
   simp only [ruZ, Int.reduceBEq, Int.reduceBNe, sb, Bool.and_true, lq4, cv8 hc256]
   refine Ev.callC c2 ?_
   simp only [ruZ, Int.reduceBEq, Int.reduceBNe, hb, b1, b2, b3, f81_J4, f81_J3, f81_J2, f81_J1, hup]
   exact r1
  ·have hb' : s.testBit c = false := by simpa using hb
   have es : notUp s (c + 1) = notUp s c ||| 2 ^ c := by rw [notUp, if_neg hb]
   obtain ⟨H3, c3, k3⟩ := rwith_ok (notUp s c) hc256 H2
   have hn3 := k3.1
   have kH3 := kH2.trans (k3.mono (upA kH2))
   have g6'' : H3.get q6 = some ⟨SC 0, 1, true⟩ := by rw [k3.2 _ (show q6 < H2.n by omega)]; exact g6'
   have g7'' : H3.get q7 = some ⟨SC (notUp s c), 1, true⟩ := by rw [k3.2 _ (show q7 < H2.n by omega)]; exact g7'
   obtain ⟨H4, hH4⟩ : ∃ H4, H3.upd q7 (some ⟨SC (notUp s c ||| 2 ^ c), 1, true⟩) = H4 := ⟨_, rfl⟩
   have s4 : stV 4 (ptr q7 0) (.agg (SC (notUp s c ||| 2 ^ c)).toArray) H3 = some (undef, H4) := by rw [← hH4]; exact stG g7'' (SC_len _) (SC_len _) (SC_one _)
   have k4 : Keep (all H0) H3 H4 := by rw [← hH4]; exact Keep.upd fun h => by have : q7 < H0.n := h; omega
   have hn4 := k4.1
   obtain ⟨H', r1, r2⟩ := ih (c + 1) H4 (by omega) (by omega) (by omega) (kH3.trans k4) (by rw [← hH4, upd_ne n67]; exact g6'') (by rw [es, ← hH4]; exact upd_self)
   refine ⟨H', Ev.step (fun n m => f81_L0.eq_2 _ _ _ _ _ _ _ _ _ _ m) ?_, r2⟩
   simp only [ruZ, Int.reduceBEq, Int.reduceBNe, e, lq3, cv8 hc256]
   refine Ev.callC c1 ?_
   simp only [ruZ, Int.reduceBEq, Int.reduceBNe, sb, Bool.and_true, lq4, cv8 hc256]
   refine Ev.callC c2 ?_
   simp only [ruZ, Int.reduceBEq, Int.reduceBNe, hb', b1, b2, b3, f81_J4, f81_J3, f81_J2, ldAG g7' (SC_len _), cv8 hc256]
   refine Ev.callC c3 ?_
   simp only [ruZ, Int.reduceBEq, Int.reduceBNe, s4, f81_J1, hup]
   exact r1
theorem rmix_ok (s : Nat) (H : Heap) : ∃ H', ClX 81 [.agg (SC s).toArray, .agg (SC s).toArray, .int .i64 3] H (.agg (SC (notUp s 256)).toArray) H' ∧ Keep (all H) H H' := by
 obtain ⟨H2, hH2⟩ : ∃ H2, (H.push ⟨SC s, 1, true⟩).push ⟨SC s, 1, true⟩ = H2 := ⟨_, rfl⟩
 have n2 : H2.n = H.n + 2 := by rw [← hH2]; rfl
 have k2 : Keep (all H) H H2 := by rw [← hH2]; exact push_keep.trans (push_keep.mono (upA push_keep))
 have g1 : H2.get H.n = some ⟨SC s, 1, true⟩ := by rw [← hH2, push_lt (by simp [push_n])]; exact push_self
 have g2 : H2.get (H.n + 1) = some ⟨SC s, 1, true⟩ := by rw [← hH2]; exact push_self
 obtain ⟨H4, hH4⟩ : ∃ H4, (H2.push ⟨SC 0, 1, true⟩).push ⟨SC 0, 1, true⟩ = H4 := ⟨_, rfl⟩
 have n4 : H4.n = H2.n + 2 := by rw [← hH4]; rfl
 have k4 : Keep (all H2) H2 H4 := by rw [← hH4]; exact push_keep.trans (push_keep.mono (upA push_keep))
 have g3 : H4.get H2.n = some ⟨SC 0, 1, true⟩ := by rw [← hH4, push_lt (by simp [push_n])]; exact push_self
 have g4 : H4.get (H2.n + 1) = some ⟨SC 0, 1, true⟩ := by rw [← hH4]; exact push_self
 obtain ⟨H5, hH5⟩ : ∃ H5, H4.upd (H2.n + 1) (some ⟨SC 0, 1, true⟩) = H5 := ⟨_, rfl⟩
 have k5 : Keep (all H2) H4 H5 := by rw [← hH5]; exact Keep.upd fun h => by have : H2.n + 1 < H2.n := h; omega
 have hn5 := k5.1
 obtain ⟨H', r1, r2⟩ := mix_loop (H0 := H2) (s := s) (q3 := H.n) (q4 := H.n + 1) (q6 := H2.n) (q7 := H2.n + 1) (by omega) (by omega) g1 g2 (by omega) (by omega) (by omega) 256 0 H5 (by omega) (by omega) (by omega) (k4.trans k5) (by rw [← hH5, upd_ne (by omega)]; exact g3) (by rw [← hH5]; exact upd_self)
 refine ⟨H', Ev.enter (fun n => f81_eq rfl n _ _ _ _) ?_, k2.trans (r2.mono (upA k2))⟩
 simp only [f81, ruA, newA (SC_one s), push_n, hH2]
 rw [SC_zero]
 have bz : ∀ G : Heap, bld (SC 0) [] G = some (.agg (SC 0).toArray, G) := fun G => rfl
 have nb : newV (SC 0) H2 = some (ptr H2.n 0, H2.push ⟨SC 0, 1, true⟩) := newV_box (SC_one _)
 have nb2 : newV (SC 0) (H2.push ⟨SC 0, 1, true⟩) = some (ptr (H2.n + 1) 0, H4) := by rw [newV_box (SC_one _), hH4]; rfl
 have s4 : stV 4 (ptr (H2.n + 1) 0) (.agg (SC 0).toArray) H4 = some (undef, H5) := by rw [stG g4 (SC_len _) (SC_len _) (SC_one _), hH5]
 simp only [ruA, nb, nb2, bz, s4]
 exact Ev.loop r1
end Go.Eng

namespace Go.Eng
open Go Go.Proofs
open Tryd (prog)

theorem rsign_cl (l : List UInt8) (hl : l.length < 1000000) (c : Nat) (H : Heap) : ClX 91 [.int .u8 (c : Int), .string (bs l)] H (.bool (decide (c ∈ U l))) H := by
 have loop : ∀ (d i : Nat), i + d = l.length → Ev (fun n m => f91_L0 real (AX n) n m (.int .u8 (c : Int)) (.string (bs l)) (.int .i64 (i : Int)) H) (.bool (decide (c ∈ (U l).drop i)), H) := by
  intro d
  induction d with
  | zero =>
   intro i hi
   obtain rfl : i = l.length := by omega
   refine Ev.step (fun n m => f91_L0.eq_2 _ _ _ _ _ _ _ m) ?_
   have e : ((l.length : Int) < (l.length : Int)) = False := by simp
   have e2 : (U l).drop l.length = [] := List.drop_eq_nil_of_le (by simp [U])
   simp only [ruZ, Int.reduceBEq, Int.reduceBNe, bs_size, e, e2]
   exact Ev.pure _
  | succ d ih =>
   intro i hi
   have hil : i < l.length := by omega
   have hix := bs_idx (l := l) (k := .i64) (i := i) (c := l[i]) (by simp [hil])
   have hd : (U l).drop i = l[i].toNat :: (U l).drop (i + 1) := by
    rw [List.drop_eq_getElem_cons (by simpa [U] using hil)]
    simp [U]
   refine Ev.step (fun n m => f91_L0.eq_2 _ _ _ _ _ _ _ m) ?_
   have e : ((i : Int) < (l.length : Int)) = True := eq_true (by omega)
   rw [hd]
   by_cases he : c = l[i].toNat
   ·have e2 : (((l[i].toNat : Nat) : Int) == (c : Int)) = true := by rw [he]; simp
    simp only [ruZ, Int.reduceBEq, Int.reduceBNe, bs_size, e, hix, e2]
    rw [decide_eq_true (show c ∈ l[i].toNat :: (U l).drop (i + 1) by rw [he]; exact List.mem_cons_self)]
    exact Ev.pure _
   ·have e2 : (((l[i].toNat : Nat) : Int) == (c : Int)) = false := by rw [k_eq']; exact decide_eq_false fun e => he e.symm
    have e3 : decide (c ∈ l[i].toNat :: (U l).drop (i + 1)) = decide (c ∈ (U l).drop (i + 1)) := decide_eq_decide.2 (by rw [List.mem_cons]; exact ⟨fun h => h.resolve_left he, .inr⟩)
    simp only [ruZ, Int.reduceBEq, Int.reduceBNe, bs_size, e, hix, e2, e3, idx_up (show i < 9223372036854775807 by omega)]
    exact ih (i + 1) (by omega)
 refine Ev.enter (fun n => f91_eq rfl n _ _ _) ?_
 have := loop l.length 0 (by omega)
 rw [List.drop_zero] at this
 exact Ev.loop this
theorem rindex_cl {c k : Nat} (h : (c = 10 ∧ k = 0) ∨ (c = 9 ∧ k = 1) ∨ (c = 13 ∧ k = 2)) (H : Heap) : ClX 90 [.string ⟨#[10, 9, 13]⟩, .int .u8 (c : Int)] H (.int .i64 (k : Int)) H := by
 have i0 : idxS (.string ⟨#[10, 9, 13]⟩) (.int .i64 ((0 : Nat) : Int)) = some (.int .u8 10) := rfl
 have i1 : idxS (.string ⟨#[10, 9, 13]⟩) (.int .i64 ((1 : Nat) : Int)) = some (.int .u8 9) := rfl
 have i2 : idxS (.string ⟨#[10, 9, 13]⟩) (.int .i64 ((2 : Nat) : Int)) = some (.int .u8 13) := rfl
 have sz : (⟨#[10, 9, 13]⟩ : ByteArray).size = 3 := rfl
 have rnd : ∀ (j x : Nat) y, j < 3 → idxS (.string ⟨#[10, 9, 13]⟩) (.int .i64 (j : Int)) = some (.int .u8 (x : Int)) →
   (x = c → y = (.int .i64 (j : Int), H)) → (x ≠ c → Ev (fun n m => f90_L0 real (AX n) n m (.string ⟨#[10, 9, 13]⟩) (.int .u8 (c : Int)) (.int .i64 ((j + 1 : Nat) : Int)) H) y) →
   Ev (fun n m => f90_L0 real (AX n) n m (.string ⟨#[10, 9, 13]⟩) (.int .u8 (c : Int)) (.int .i64 (j : Int)) H) y := by
  intro j x y hj hx h1 h2
  refine Ev.step (fun n m => f90_L0.eq_2 _ _ _ _ _ _ _ m) ?_
  have e : ((j : Int) < ((3 : Nat) : Int)) = True := eq_true (by omega)
  by_cases he : x = c
  ·have e2 : ((x : Int) == (c : Int)) = true := by rw [he]; simp
   simp only [ruZ, Int.reduceBEq, Int.reduceBNe, sz, e, hx, e2]
   rw [h1 he]
   exact Ev.pure _
  ·have e2 : ((x : Int) == (c : Int)) = false := by rw [k_eq']; exact decide_eq_false he
   simp only [ruZ, Int.reduceBEq, Int.reduceBNe, sz, e, hx, e2, idx_up (show j < 9223372036854775807 by omega)]
   exact h2 he
 refine Ev.enter (fun n => f90_eq rfl n _ _ _) ?_
 refine Ev.loop (R := fun n m => f90_L0 real (AX n) n m (.string ⟨#[10, 9, 13]⟩) (.int .u8 (c : Int)) (.int .i64 ((0 : Nat) : Int)) H) ?_
 refine rnd 0 10 _ (by omega) i0 (fun e => ?_) fun e => rnd 1 9 _ (by omega) i1 (fun e => ?_) fun e => rnd 2 13 _ (by omega) i2 (fun e => ?_) fun e => ?_
 ·rcases h with ⟨_, rfl⟩ | ⟨rfl, _⟩ | ⟨rfl, _⟩
  ·rfl
  ·simp at e
  ·simp at e
 ·rcases h with ⟨rfl, _⟩ | ⟨_, rfl⟩ | ⟨rfl, _⟩
  ·simp at e
  ·rfl
  ·simp at e
 ·rcases h with ⟨rfl, _⟩ | ⟨rfl, _⟩ | ⟨_, rfl⟩
  ·simp at e
  ·simp at e
  ·rfl
 ·omega
theorem rslc_dig {k : Nat} (hk : k < 16) : slcStr (.string ⟨#[48, 49, 50, 51, 52, 53, 54, 55, 56, 57, 97, 98, 99, 100, 101, 102]⟩) (some (.int .u8 (k : Int))) (some (.int .u8 ((k + 1 : Nat) : Int))) = some (.string (strOf [hexN k])) :=
 match k, hk with
 | 0, _ => by kernel_rfl
 | 1, _ => by kernel_rfl
 | 2, _ => by kernel_rfl
 | 3, _ => by kernel_rfl
 | 4, _ => by kernel_rfl
 | 5, _ => by kernel_rfl
 | 6, _ => by kernel_rfl
 | 7, _ => by kernel_rfl
 | 8, _ => by kernel_rfl
 | 9, _ => by kernel_rfl
 | 10, _ => by kernel_rfl
 | 11, _ => by kernel_rfl
 | 12, _ => by kernel_rfl
 | 13, _ => by kernel_rfl
 | 14, _ => by kernel_rfl
 | 15, _ => by kernel_rfl
 | k + 16, h => absurd h (by omega)
theorem rhex_cl {c : Nat} (hc : c < 256) (H : Heap) : ClX 92 [.int .u8 (c : Int)] H (.string (strOf [hexN (c / 16), hexN (c % 16)])) H := by
 have w : ∀ k : Nat, k < 16 → IntKind.u8.wrap ((k : Int) + 1) = ((k + 1 : Nat) : Int) := fun k hk => by
  show ((k : Int) + 1) % 256 = _
  omega
 have a : binB prog .add 9 (.string (strOf [hexN (c / 16)])) (.string (strOf [hexN (c % 16)])) = some (.string (strOf ([hexN (c / 16)] ++ [hexN (c % 16)]))) := s_add (by simp)
 refine Ev.enter (fun n => f92_eq rfl n _ _) ?_
 simp only [f92, ruZ, Int.reduceBEq, Int.reduceBNe, u8_shr4 hc, u8_and15 hc, w _ (show c / 16 < 16 by omega), w _ (show c % 16 < 16 by omega), rslc_dig (show c / 16 < 16 by omega), rslc_dig (show c % 16 < 16 by omega), a]
 exact Ev.pure _
theorem three_s {H : Heap} {x y z u : ByteArray} : bldS 1 3 [.string u] [(0, 1, .string x), (1, 1, .string y), (2, 1, .string z)] H = some (.slice (some ⟨H.n, 0, none⟩) 3 3, H.push ⟨[.string x, .string y, .string z], 1, true⟩) := rfl
theorem rbt_ok {noT : List UInt8} {noL : List Nat} (hno : ∀ c, c ∈ U noT ↔ c ∈ noL) (hnl : noT.length < 1000000) {c : Nat} (hc : c < 256) (H : Heap) :
  ∃ H', ClX 80 [.int .u8 (c : Int), .string (bs noT)] H (.string (strOf (byteN noL c))) H' ∧ Keep (all H) H H' := by
 have esc : ∀ G, ClX 91 [.int .u8 (c : Int), .string ⟨#[40, 41, 91, 93, 124, 42, 43, 63, 46, 92, 47, 94, 45]⟩] G (.bool (decide (c ∈ escL))) G := fun G => rsign_cl escT (by decide) c G
 have sig : ∀ G, ClX 91 [.int .u8 (c : Int), .string (bs noT)] G (.bool (decide (c ∈ noL))) G := fun G => by
  have := rsign_cl noT hnl c G
  rwa [decide_eq_decide.2 (hno c)] at this
 have low : ∀ (k x : Nat), ((c = 10 ∧ k = 0) ∨ (c = 9 ∧ k = 1) ∨ (c = 13 ∧ k = 2)) → ([.string ⟨#[110]⟩, .string ⟨#[116]⟩, .string ⟨#[114]⟩] : List Value)[k]? = some (.string (strOf [x])) → byteN noL c = [92, x] →
   ∃ H', ClX 80 [.int .u8 (c : Int), .string (bs noT)] H (.string (strOf (byteN noL c))) H' ∧ Keep (all H) H H' := by
  intro k x hk hx hb
  obtain ⟨H1, hH1⟩ : ∃ H1, H.push ⟨[.string ⟨#[110]⟩, .string ⟨#[116]⟩, .string ⟨#[114]⟩], 1, true⟩ = H1 := ⟨_, rfl⟩
  have k1 : Keep (all H) H H1 := by rw [← hH1]; exact push_keep
  have sl : Sl (all H1) H1 1 (.slice (some ⟨H.n, 0, none⟩) 3 3) 3 [.string ⟨#[110]⟩, .string ⟨#[116]⟩, .string ⟨#[114]⟩] := by
   rw [← hH1]
   exact .inr (.inr ⟨H.n, 0, none, 3, _, rfl, by simp [all, push_n], push_self, by simp, Nat.le_refl _, rfl⟩)
  obtain ⟨p, p1, p2⟩ := sl.at1 hx
  have bl := three_s (H := H) (x := ⟨#[110]⟩) (y := ⟨#[116]⟩) (z := ⟨#[114]⟩) (u := ⟨#[]⟩)
  rw [hH1] at bl
  have e : ((c : Int) == 10 || (c : Int) == 9 || (c : Int) == 13) = true := by
   rcases hk with ⟨rfl, _⟩ | ⟨rfl, _⟩ | ⟨rfl, _⟩ <;> rfl
  have a : binB prog .add 9 (.string ⟨#[92]⟩) (.string (strOf [x])) = some (.string (strOf [92, x])) := s_add (a := [92]) (by simp)
  rw [hb]
  refine ⟨H1, Ev.enter (fun n => f80_eq rfl n _ _ _) ?_, k1⟩
  cases e1 : ((c : Int) == 10) with
  | true =>
   simp only [f80, ruZ, Int.reduceBEq, Int.reduceBNe, e1, bl]
   refine Ev.callC (rindex_cl hk H1) ?_
   simp only [ruZ, Int.reduceBEq, Int.reduceBNe, p1, p2, a]
   exact Ev.pure _
  | false =>
   cases e2 : ((c : Int) == 9) with
   | true =>
    simp only [f80, ruZ, Int.reduceBEq, Int.reduceBNe, e1, e2, bl]
    refine Ev.callC (rindex_cl hk H1) ?_
    simp only [ruZ, Int.reduceBEq, Int.reduceBNe, p1, p2, a]
    exact Ev.pure _
   | false =>
    have e3 : ((c : Int) == 13) = true := by simpa [e1, e2] using e
    simp only [f80, ruZ, Int.reduceBEq, Int.reduceBNe, e1, e2, e3, bl]
    refine Ev.callC (rindex_cl hk H1) ?_
    simp only [ruZ, Int.reduceBEq, Int.reduceBNe, p1, p2, a]
    exact Ev.pure _
 by_cases h1 : c = 10
 ·exact low 0 110 (.inl ⟨h1, rfl⟩) rfl (by unfold byteN; rw [if_pos h1])
 by_cases h2 : c = 9
 ·exact low 1 116 (.inr (.inl ⟨h2, rfl⟩)) rfl (by unfold byteN; rw [if_neg h1, if_pos h2])
 by_cases h3 : c = 13
 ·exact low 2 114 (.inr (.inr ⟨h3, rfl⟩)) rfl (by unfold byteN; rw [if_neg h1, if_neg h2, if_pos h3])
 have byt : byteN noL c = if 32 ≤ c ∧ c ≤ 126 ∧ c ∉ noL then [c] else if c ∈ escL then [92, c] else [92, 120, hexN (c / 16), hexN (c % 16)] := by
  unfold byteN; rw [if_neg h1, if_neg h2, if_neg h3]
 have e1 : ((c : Int) == 10) = false := by have := k_eq' (a := c) (k := 10); rw [decide_eq_false h1] at this; exact this
 have e2 : ((c : Int) == 9) = false := by have := k_eq' (a := c) (k := 9); rw [decide_eq_false h2] at this; exact this
 have e3 : ((c : Int) == 13) = false := by have := k_eq' (a := c) (k := 13); rw [decide_eq_false h3] at this; exact this
 rw [byt]
 have rest : (¬ (32 ≤ c ∧ c ≤ 126 ∧ c ∉ noL)) → ∃ H', Ev (fun n (m : Nat) => bnd (AX n 91 [.int .u8 (c : Int), (.string ⟨#[40, 41, 91, 93, 124, 42, 43, 63, 46, 92, 47, 94, 45]⟩)] H) fun x37 H48 =>
  iff x37
  (bnd (bldS 1 1 [(.int .u8 0)] [(0, 1, .int .u8 (c : Int))] H48) fun x39 H50 =>
  bnd (toStr x39 H50) fun x40 H52 =>
  bnd (up (binB prog .add 9 (.string ⟨#[92]⟩) x40) H52) fun x41 H54 =>
  some (x41, H54))
  (bnd (AX n 92 [.int .u8 (c : Int)] H48) fun x43 H56 =>
  bnd (up (binB prog .add 9 (.string ⟨#[92, 120]⟩) x43) H56) fun x44 H58 =>
  some (x44, H58))) (.string (strOf (if 32 ≤ c ∧ c ≤ 126 ∧ c ∉ noL then [c] else if c ∈ escL then [92, c] else [92, 120, hexN (c / 16), hexN (c % 16)])), H') ∧ Keep (all H) H H' := by
  intro hn
  rw [if_neg hn]
  by_cases hm : c ∈ escL
  ·rw [if_pos hm]
   refine ⟨_, Ev.callC (esc H) ?_, push_keep (blk := ⟨[.int .u8 (c : Int)], 1, true⟩)⟩
   simp only [ruZ, Int.reduceBEq, Int.reduceBNe, decide_eq_true hm, to1, str1, sgn_add]
   exact Ev.pure _
  ·rw [if_neg hm]
   refine ⟨H, Ev.callC (esc H) ?_, Keep.refl _ _⟩
   simp only [ruZ, Int.reduceBEq, Int.reduceBNe, decide_eq_false hm]
   refine Ev.callC (rhex_cl hc H) ?_
   simp only [ruZ, Int.reduceBEq, Int.reduceBNe, hex_add]
   exact Ev.pure _
 by_cases h32 : 32 ≤ c
 ·have e32 : ((c : Int) ≥ 32) = True := eq_true (by omega)
  by_cases h126 : c ≤ 126
  ·have e126 : ((c : Int) ≤ 126) = True := eq_true (by omega)
   by_cases hn : c ∈ noL
   ·obtain ⟨H', r1, r2⟩ := rest fun h => h.2.2 hn
    refine ⟨H', Ev.enter (fun n => f80_eq rfl n _ _ _) ?_, r2⟩
    simp only [f80, ruZ, Int.reduceBEq, Int.reduceBNe, e1, e2, e3, e32, e126]
    refine Ev.callC (sig H) ?_
    simp only [ruZ, Int.reduceBEq, Int.reduceBNe, decide_eq_true hn]
    exact r1
   ·rw [if_pos ⟨h32, h126, hn⟩]
    refine ⟨_, Ev.enter (fun n => f80_eq rfl n _ _ _) ?_, push_keep (blk := ⟨[.int .u8 (c : Int)], 1, true⟩)⟩
    simp only [f80, ruZ, Int.reduceBEq, Int.reduceBNe, e1, e2, e3, e32, e126]
    refine Ev.callC (sig H) ?_
    simp only [ruZ, Int.reduceBEq, Int.reduceBNe, decide_eq_false hn, to1, str1]
    exact Ev.pure _
  ·have e126 : ((c : Int) ≤ 126) = False := eq_false (by omega)
   obtain ⟨H', r1, r2⟩ := rest fun h => h126 h.2.1
   refine ⟨H', Ev.enter (fun n => f80_eq rfl n _ _ _) ?_, r2⟩
   simp only [f80, ruZ, Int.reduceBEq, Int.reduceBNe, e1, e2, e3, e32, e126]
   exact r1
 ·have e32 : ((c : Int) ≥ 32) = False := eq_false (by omega)
  obtain ⟨H', r1, r2⟩ := rest fun h => h32 h.1
  refine ⟨H', Ev.enter (fun n => f80_eq rfl n _ _ _) ?_, r2⟩
  simp only [f80, ruZ, Int.reduceBEq, Int.reduceBNe, e1, e2, e3, e32]
  exact r1
end Go.Eng

namespace Go.Eng
open Go Go.Proofs
open Tryd (prog)

def rsetN (s : Nat) : List Nat :=
 if (setL s).length = 1 then byteN signsL ((setL s).headD 0)
 else if (setL s).length = 0 then [91, 94, 92, 120, 48, 48, 45, 92, 120, 102, 102, 93]
 else if (setL s).length = 255 ∧ s.testBit 10 = false then [46]
 else if 128 < (setL s).length ∧ (setL s).length < 256 then 91 :: 94 :: clsN (notS s) ++ [93]
 else 91 :: clsN s ++ [93]
theorem setL_not {s : Nat} (h : setL s = []) : setL (notS s) = List.range 256 := by
 rw [setL_eq]
 apply List.filter_eq_self.2
 intro a ha
 rw [List.mem_range] at ha
 have : ¬ a ∈ setL s := by rw [h]; simp
 rw [setL_mem] at this
 have h2 : s.testBit a = false := by
  cases hb : s.testBit a with
  | false => rfl
  | true => exact absurd ⟨ha, hb⟩ this
 rw [notS_bit, h2]
 simp [ha]
theorem cls_full : listN (byteN classL) (List.range 256) 257 0 = [92, 120, 48, 48, 45, 92, 120, 102, 102] := by kernel_rfl
theorem dot_iff {s : Nat} : sameS s (notS (ofS [10])) ↔ (setL s).length = 255 ∧ s.testBit 10 = false := by
 have hbit : ∀ d, d < 256 → (notS (ofS [10])).testBit d = !decide (d = 10) := fun d hd => by
  have h := List.all_eq_true.1 (show (List.range 256).all (fun d => (notS (ofS [10])).testBit d == !decide (d = 10)) = true by kernel_rfl) d (List.mem_range.2 hd)
  exact eq_of_beq h
 have hs : sameS s (notS (ofS [10])) ↔ ∀ d, d < 256 → s.testBit d = !decide (d = 10) := by
  constructor
  ·intro h d hd
   have h2 : (wrd s (d / 64)).testBit (d % 64) = (wrd (notS (ofS [10])) (d / 64)).testBit (d % 64) := by rw [h (d / 64) (by omega)]
   rw [wrd_bit, wrd_bit, show 64 * (d / 64) + d % 64 = d by omega] at h2
   rw [← hbit d hd]
   simpa [show d % 64 < 64 by omega] using h2
  ·intro h i hi
   apply Nat.eq_of_testBit_eq
   intro j
   rw [wrd_bit, wrd_bit]
   by_cases hj : j < 64
   ·rw [h _ (by omega), hbit _ (by omega)]
   ·simp [hj]
 have hlen : ((List.range 256).filter fun d => !decide (d = 10)).length = 255 := by kernel_rfl
 rw [hs]
 constructor
 ·intro h
  refine ⟨?_, h 10 (by omega)⟩
  rw [setL_eq, ← hlen]
  congr 1
  exact List.filter_congr fun x hx => h x (List.mem_range.1 hx)
 ·rintro ⟨h1, h2⟩
  have sub : ((List.range 256).filter s.testBit).Sublist ((List.range 256).filter fun d => !decide (d = 10)) := by
   have : (List.range 256).filter s.testBit = ((List.range 256).filter fun d => !decide (d = 10)).filter s.testBit := by
    rw [List.filter_filter]
    apply List.filter_congr
    intro x hx
    by_cases hx10 : x = 10
    ·subst hx10; rw [h2]; rfl
    ·simp [hx10]
   rw [this]
   exact List.filter_sublist
  have heq := sub.eq_of_length (by rw [hlen, ← setL_eq, h1])
  intro d hd
  have m : d ∈ (List.range 256).filter s.testBit ↔ d ∈ (List.range 256).filter fun d => !decide (d = 10) := by rw [heq]
  rw [List.mem_filter, List.mem_filter, List.mem_range] at m
  rw [Bool.eq_iff_iff]
  exact ⟨fun h => (m.1 ⟨hd, h⟩).2, fun h => (m.2 ⟨hd, h⟩).2⟩
theorem rsetN_eq (s : Nat) : rsetN s = setN s := by
 unfold rsetN setN
 by_cases h1 : (setL s).length = 1
 ·rw [if_pos h1, if_neg (by omega), if_pos h1]
 rw [if_neg h1]
 by_cases h0 : (setL s).length = 0
 ·rw [if_pos h0, if_pos h0]
  have : clsN (notS s) = [92, 120, 48, 48, 45, 92, 120, 102, 102] := by
   unfold clsN
   rw [setL_not (List.length_eq_zero_iff.1 h0)]
   exact cls_full
  rw [this]; rfl
 rw [if_neg h0, if_neg h0, if_neg h1]
 by_cases hd : (setL s).length = 255 ∧ s.testBit 10 = false
 ·rw [if_pos hd, if_pos (dot_iff.2 hd)]
 ·rw [if_neg hd, if_neg fun h => hd (dot_iff.1 h)]
theorem U_class : ∀ c, c ∈ U classT ↔ c ∈ classL := fun c => Iff.rfl
theorem U_signs : ∀ c, c ∈ U signsT ↔ c ∈ signsL := fun c => Iff.rfl
theorem rcls_ok (c : Nat) (hc : c < 256) (H : Heap) : ∃ H', ClX 80 [.int .u8 (c : Int), .string ⟨#[91, 93, 92, 94, 45, 47]⟩] H (.string (strOf (byteN classL c))) H' ∧ Keep (all H) H H' :=
 rbt_ok (noT := classT) U_class (by decide) hc H
theorem getD_at {l : List Nat} {i : Nat} (h : i < l.length) : (B l)[i]? = some (.int .u8 ((l.getD i 0 : Nat) : Int)) := by
 simp [B, h]
theorem sl_blk {H H1 : Heap} {v q : Value} {n i : Nat} {cs : List Value} (h : Sl (all H) H 1 v n cs) (hi : i < n) (hp : iAddrS 1 v (.int .i64 (i : Int)) = some q) (k : Keep (all H) H H1) : sameBlk H H1 (blkOf q) = true := by
 obtain ⟨b, o, h1, h2, _⟩ := h.atN hi
 rw [hp] at h1
 injection h1 with h1
 subst h1
 exact blk_keep (k := o) h2 k
theorem cls_loop {H0 : Heap} {v : Value} {l : List Nat} (hb : ∀ c ∈ l, c < 256) (hl : l.length ≤ 256) (hs : Sl (all H0) H0 1 v l.length (B l)) : ∀ (f i : Nat) (out : List Nat) (H : Heap), l.length < f + i → i ≤ l.length → f ≤ 1000 → out.length + 9 * f ≤ 1000000 → Keep (all H0) H0 H →
  ∃ H', Ev (fun n m => f57_L0 real (AX n) n m v (.string (strOf out)) (.int .i64 (i : Int)) H) (.string (strOf (out ++ listN (byteN classL) l f i ++ [93])), H') ∧ Keep (all H0) H0 H' := by
 intro f
 induction f with
 | zero => intro i out H h1 h2; omega
 | succ f ih =>
  intro i out H hf hi hfl ho kH
  have hsH := hs.keep kH
  rw [listN]
  by_cases hil : i < l.length
  ·rw [if_pos hil]
   have e0 : ((i : Int) < (l.length : Int)) = True := eq_true (by omega)
   have hle := runE_le l l.length i
   have hlt := runE_lt l l.length i hil
   have gi : l.getD i 0 < 256 := by
    rw [List.getD_eq_getElem?_getD, List.getElem?_eq_getElem hil]; exact hb _ (List.getElem_mem hil)
   have inner : ∀ (g k : Nat) y, i ≤ k → k < l.length → l.length ≤ g + k → runE l g k = runE l l.length i →
     (∀ z, z = runE l l.length i → Ev3 (fun n m (j : Nat) => bnd (up (binB prog .sub 3 (.int .i64 (z : Int)) (.int .i64 (i : Int))) H) fun x66 H102 =>
  bnd (up (binB prog .geq 3 x66 (.int .i64 2)) H102) fun x67 H104 =>
  iff x67
  (bnd (up (iAddrS 1 v (.int .i64 (i : Int))) H104) fun x71 H106 =>
   chk true (bnd (ldC x71 H106) fun x72 H108 =>
   bnd (AX n 80 [x72, (.string ⟨#[91, 93, 92, 94, 45, 47]⟩)] H108) fun x73 H110 =>
   chk true (bnd (up (binB prog .add 9 (.string (strOf out)) x73) H110) fun x74 H112 =>
   bnd (up (binB prog .add 9 x74 (.string ⟨#[45]⟩)) H112) fun x75 H114 =>
   bnd (up (iAddrS 1 v (.int .i64 (z : Int))) H114) fun x78 H116 =>
   chk ((sameBlk H108 H110 (blkOf x78)) && true) (bnd (ldC x78 H116) fun x79 H118 =>
   bnd (AX n 80 [x79, (.string ⟨#[91, 93, 92, 94, 45, 47]⟩)] H118) fun x80 H120 =>
   chk true (bnd (up (binB prog .add 9 x75 x80) H120) fun x81 H122 =>
    bnd (up (binB prog .add 3 (.int .i64 (z : Int)) (.int .i64 1)) H122) fun x83 H124 =>
    f57_L0 real (AX n) n m v x81 x83 H124)))))
  (bnd (up (iAddrS 1 v (.int .i64 (i : Int))) H104) fun x87 H130 =>
   bnd (ldC x87 H130) fun x88 H132 =>
   bnd (AX n 80 [x88, (.string ⟨#[91, 93, 92, 94, 45, 47]⟩)] H132) fun x89 H134 =>
   bnd (up (binB prog .add 9 (.string (strOf out)) x89) H134) fun x90 H136 =>
   bnd (up (binB prog .add 3 (.int .i64 (i : Int)) (.int .i64 1)) H136) fun x92 H138 =>
   f57_L0 real (AX n) n m v x90 x92 H138)) y) →
     Ev3 (fun n m j => f57_L1 real (AX n) n (f57_L0 real (AX n) n m) j v (.string (strOf out)) (.int .i64 (i : Int)) (.int .i64 (k : Int)) H) y := by
    intro g
    induction g with
    | zero => intro k y h1 h2 h3; omega
    | succ g ihg =>
     intro k y hik hkl hg hrun hy
     have hup := idx_up (show k < 9223372036854775807 by omega)
     have gk : l.getD k 0 < 256 := by
      rw [List.getD_eq_getElem?_getD, List.getElem?_eq_getElem hkl]; exact hb _ (List.getElem_mem hkl)
     refine Ev3.step (fun n m j => f57_L1.eq_2 _ _ _ _ _ _ _ _ _ j) ?_
     rw [runE] at hrun
     by_cases hk1 : k + 1 < l.length
     ·have e1 : (((k + 1 : Nat) : Int) < (l.length : Int)) = True := eq_true (by omega)
      obtain ⟨p, p1, p2⟩ := hsH.at1 (getD_at hkl)
      obtain ⟨q, q1, q2⟩ := hsH.at1 (getD_at hk1)
      have w : IntKind.u8.wrap (((l.getD k 0 : Nat) : Int) + 1) = (((l.getD k 0 + 1) % 256 : Nat) : Int) := by
       show (((l.getD k 0 : Nat) : Int) + 1) % 256 = _
       omega
      by_cases hc : l.getD (k + 1) 0 = (l.getD k 0 + 1) % 256
      ·rw [if_pos ⟨hk1, hc⟩] at hrun
       have e2 : (((l.getD (k + 1) 0 : Nat) : Int) == (((l.getD k 0 + 1) % 256 : Nat) : Int)) = true := by rw [hc]; simp
       simp only [ruZ, Int.reduceBEq, Int.reduceBNe, hup, hsH.lenS, e1, q1, q2, p1, p2, w, e2, Bool.or_true]
       exact ihg (k + 1) y (by omega) hk1 (by omega) hrun hy
      ·rw [if_neg fun h => hc h.2] at hrun
       have e2 : (((l.getD (k + 1) 0 : Nat) : Int) == (((l.getD k 0 + 1) % 256 : Nat) : Int)) = false := by rw [k_eq']; exact decide_eq_false hc
       simp only [ruZ, Int.reduceBEq, Int.reduceBNe, hup, hsH.lenS, e1, q1, q2, p1, p2, w, e2, Bool.or_true]
       have := hy k hrun
       simp only [ruZ, Int.reduceBEq, Int.reduceBNe, p1, p2, hup, Bool.or_true] at this
       exact this
     ·have e1 : (((k + 1 : Nat) : Int) < (l.length : Int)) = False := eq_false (by omega)
      rw [if_neg fun h => hk1 h.1] at hrun
      simp only [ruZ, Int.reduceBEq, Int.reduceBNe, hup, hsH.lenS, e1, Bool.or_true]
      have := hy k hrun
      simp only [ruZ, Int.reduceBEq, Int.reduceBNe, hup, Bool.or_true] at this
      exact this
   obtain ⟨p, p1, p2⟩ := hsH.at1 (getD_at hil)
   obtain ⟨H1, c1, k1⟩ := rcls_ok _ gi H
   have kH1 := kH.trans (k1.mono (upA kH))
   have bl1 := byteN_len classL (l.getD i 0)
   have a1 : binB prog .add 9 (.string (strOf out)) (.string (strOf (byteN classL (l.getD i 0)))) = some (.string (strOf (out ++ byteN classL (l.getD i 0)))) := s_add (by omega)
   obtain ⟨z, hz⟩ : ∃ z, runE l l.length i = z := ⟨_, rfl⟩
   rw [hz] at hle hlt inner ⊢
   have w1 : IntKind.i64.wrap ((z : Int) - (i : Int)) = ((z - i : Nat) : Int) := by rw [wrap_i64 (by omega) (by omega)]; omega
   by_cases h2 : 2 ≤ z - i
   ·rw [if_pos h2]
    have gz : l.getD z 0 < 256 := by
     rw [List.getD_eq_getElem?_getD, List.getElem?_eq_getElem hlt]; exact hb _ (List.getElem_mem hlt)
    obtain ⟨q, q1, q2⟩ := (hs.keep kH1).at1 (getD_at hlt)
    obtain ⟨H2, c2, k2⟩ := rcls_ok _ gz H1
    have kH2 := kH1.trans (k2.mono (upA kH1))
    have bl2 := byteN_len classL (l.getD z 0)
    have a2 : binB prog .add 9 (.string (strOf (out ++ byteN classL (l.getD i 0)))) (.string ⟨#[45]⟩) = some (.string (strOf (out ++ byteN classL (l.getD i 0) ++ [45]))) := s_add (b := [45]) (by simp only [List.length_append, List.length_cons, List.length_nil]; omega)
    have a3 : binB prog .add 9 (.string (strOf (out ++ byteN classL (l.getD i 0) ++ [45]))) (.string (strOf (byteN classL (l.getD z 0)))) = some (.string (strOf (out ++ byteN classL (l.getD i 0) ++ [45] ++ byteN classL (l.getD z 0)))) := s_add (by simp only [List.length_append, List.length_cons, List.length_nil]; omega)
    obtain ⟨H', r1, r2⟩ := ih (z + 1) (out ++ byteN classL (l.getD i 0) ++ [45] ++ byteN classL (l.getD z 0)) H2 (by omega) (by omega) (by omega) (by simp only [List.length_append, List.length_cons, List.length_nil]; omega) kH2
    refine ⟨H', Ev.step (fun n m => f57_L0.eq_2 _ _ _ _ _ _ _ m) ?_, r2⟩
    simp only [ruZ, Int.reduceBEq, Int.reduceBNe, hsH.lenS, e0]
    refine Ev3.close (R := fun n m j => f57_L1 real (AX n) n (f57_L0 real (AX n) n m) j v (.string (strOf out)) (.int .i64 (i : Int)) (.int .i64 (i : Int)) H) ?_
    refine inner l.length i _ (Nat.le_refl _) hil (by omega) hz fun z' hz' => ?_
    subst hz'
    have e2 : (((z' - i : Nat) : Int) ≥ 2) = True := eq_true (by omega)
    have q1' : iAddrS 1 v (.int .i64 (z' : Int)) = some q := q1
    simp only [ruZ, Int.reduceBEq, Int.reduceBNe, w1, e2, p1, p2]
    refine Ev3.callC c1 ?_
    have hq : sameBlk H H1 (blkOf q) = true := by
     exact sl_blk (hsH.mono (upA kH)) hlt q1 k1
    simp only [ruZ, Int.reduceBEq, Int.reduceBNe, a1, a2, q1', hq, Bool.and_true, q2]
    refine Ev3.callC c2 ?_
    simp only [ruZ, Int.reduceBEq, Int.reduceBNe, a3, idx_up (show z' < 9223372036854775807 by omega)]
    have eo : out ++ byteN classL (l.getD i 0) ++ [45] ++ byteN classL (l.getD z' 0) ++ listN (byteN classL) l f (z' + 1) = out ++ (byteN classL (l.getD i 0) ++ 45 :: (byteN classL (l.getD z' 0) ++ listN (byteN classL) l f (z' + 1))) := by simp
    rw [eo] at r1
    exact Ev3.of r1
   ·rw [if_neg h2]
    obtain ⟨H', r1, r2⟩ := ih (i + 1) (out ++ byteN classL (l.getD i 0)) H1 (by omega) (by omega) (by omega) (by simp only [List.length_append, List.length_cons, List.length_nil]; omega) kH1
    refine ⟨H', Ev.step (fun n m => f57_L0.eq_2 _ _ _ _ _ _ _ m) ?_, r2⟩
    simp only [ruZ, Int.reduceBEq, Int.reduceBNe, hsH.lenS, e0]
    refine Ev3.close (R := fun n m j => f57_L1 real (AX n) n (f57_L0 real (AX n) n m) j v (.string (strOf out)) (.int .i64 (i : Int)) (.int .i64 (i : Int)) H) ?_
    refine inner l.length i _ (Nat.le_refl _) hil (by omega) hz fun z' hz' => ?_
    subst hz'
    have e2 : (((z' - i : Nat) : Int) ≥ 2) = False := eq_false (by omega)
    simp only [ruZ, Int.reduceBEq, Int.reduceBNe, w1, e2, p1, p2]
    refine Ev3.callC c1 ?_
    simp only [ruZ, Int.reduceBEq, Int.reduceBNe, a1, idx_up (show i < 9223372036854775807 by omega)]
    have eo : out ++ byteN classL (l.getD i 0) ++ listN (byteN classL) l f (i + 1) = out ++ (byteN classL (l.getD i 0) ++ listN (byteN classL) l f (i + 1)) := List.append_assoc _ _ _
    rw [eo] at r1
    exact Ev3.of r1
  ·rw [if_neg hil]
   have e0 : ((i : Int) < (l.length : Int)) = False := eq_false (by omega)
   refine ⟨H, Ev.step (fun n m => f57_L0.eq_2 _ _ _ _ _ _ _ m) ?_, kH⟩
   simp only [ruZ, Int.reduceBEq, Int.reduceBNe, hsH.lenS, e0, end_add (show out.length < 1000000 by omega), List.append_nil]
   exact Ev.pure _
end Go.Eng

namespace Go.Eng
open Go Go.Proofs
open Tryd (prog)

theorem rset_ok (s : Nat) (H : Heap) : ∃ H', ClX 57 [.agg (SC s).toArray] H (.string (strOf (setN s))) H' ∧ Keep (all H) H H' := by
 rw [← rsetN_eq]
 obtain ⟨H1, hH1⟩ : ∃ H1, H.push ⟨SC s, 1, true⟩ = H1 := ⟨_, rfl⟩
 have n1 : H1.n = H.n + 1 := by rw [← hH1]; rfl
 have k1 : Keep (all H) H H1 := by rw [← hH1]; exact push_keep
 have g1 : H1.get H.n = some ⟨SC s, 1, true⟩ := by rw [← hH1]; exact push_self
 obtain ⟨v, H2, c2, sl, k2'⟩ := rall_ok s H1
 have k2 := k1.trans (k2'.mono (upA k1))
 have la : ∀ {G : Heap}, Keep (all H1) H1 G → ldA 4 (ptr H.n 0) G = some (.agg (SC s).toArray, G) := fun kk => ldAG (by rw [kk.2 _ (show H.n < H1.n by omega)]; exact g1) (SC_len _)
 have hb : ∀ c ∈ setL s, c < 256 := fun c hc => (setL_mem.1 hc).1
 obtain ⟨l, hl⟩ : ∃ l, setL s = l := ⟨_, rfl⟩
 have hlen : l.length ≤ 256 := by rw [← hl]; exact setL_len s
 have hcls : clsN s = listN (byteN classL) l 257 0 := by rw [← hl]; rfl
 unfold rsetN
 rw [hl] at sl hb ⊢
 rw [hcls]
 by_cases h1 : l.length = 1
 ·rw [if_pos h1]
  have e1 : ((l.length : Int) == 1) = true := by rw [h1]; rfl
  obtain ⟨c, rfl⟩ : ∃ c, l = [c] := by
   match l, h1 with
   | [c], _ => exact ⟨c, rfl⟩
  obtain ⟨p, p1, p2⟩ := sl.at1 (i := 0) (x := .int .u8 (c : Int)) rfl
  have p1' : iAddrS 1 v (.int .i64 0) = some p := p1
  obtain ⟨H3, c3, k3⟩ := rbt_ok (noT := signsT) U_signs (by decide) (hb c (by simp)) H2
  refine ⟨H3, Ev.enter (fun n => f57_eq rfl n _ _) ?_, k2.trans (k3.mono (upA k2))⟩
  simp only [f57, ruA, newA (SC_one s), hH1, la (Keep.refl _ _)]
  refine Ev.callC c2 ?_
  simp only [ruZ, Int.reduceBEq, Int.reduceBNe, sl.lenS, e1, p1', p2]
  refine Ev.callC c3 ?_
  exact Ev.pure _
 have e1 : ((l.length : Int) == 1) = false := by
  have := k_eq' (a := l.length) (k := 1)
  rw [decide_eq_false h1] at this; exact this
 rw [if_neg h1]
 by_cases h0 : l.length = 0
 ·rw [if_pos h0]
  have e0 : ((l.length : Int) == 0) = true := by rw [h0]; rfl
  refine ⟨H2, Ev.enter (fun n => f57_eq rfl n _ _) ?_, k2⟩
  simp only [f57, ruA, newA (SC_one s), hH1, la (Keep.refl _ _)]
  refine Ev.callC c2 ?_
  simp only [ruZ, Int.reduceBEq, Int.reduceBNe, sl.lenS, e1, e0]
  exact Ev.pure _
 have e0 : ((l.length : Int) == 0) = false := by
  have := k_eq' (a := l.length) (k := 0)
  rw [decide_eq_false h0] at this; exact this
 rw [if_neg h0]
 have lst : ∀ (t : Nat) (w : Value) (G : Heap) (out : List Nat), out.length ≤ 10 → Sl (all G) G 1 w (setL t).length (B (setL t)) →
   ∃ H', Ev (fun n m => f57_L0 real (AX n) n m w (.string (strOf out)) (.int .i64 ((0 : Nat) : Int)) G) (.string (strOf (out ++ listN (byteN classL) (setL t) 257 0 ++ [93])), H') ∧ Keep (all G) G H' := fun t w G out ho hw =>
  cls_loop (H0 := G) (v := w) (l := setL t) (fun c hc => (setL_mem.1 hc).1) (setL_len t) hw 257 0 out G (by have := setL_len t; omega) (by omega) (by omega) (by omega) (Keep.refl _ _)
 have tail : ∀ (G : Heap), Keep (all H2) H2 G → ¬ (l.length = 255 ∧ s.testBit 10 = false) → ∃ H', Ev (fun n m => bnd (up (binB prog .gtr 3 (.int .i64 (l.length : Int)) (.int .i64 128)) G) fun x29 H36 =>
  bnd (gd (wd x29 true) (some (v, H36)) H36) fun x31 H38 =>
  bnd (gd (wd x29 true) (up (lenS x31) H38) H38) fun x32 H40 =>
  bnd (gd (wd x29 true) (up (binB prog .lss 3 x32 (.int .i64 256)) H40) H40) fun x33 H42 =>
  bnd (pickV x29 x33 (.bool false) H42) fun x34 H44 =>
  iff x34
  (bnd (ldA 4 (ptr H.n 0) H44) fun x35 H46 =>
   bnd (ldA 4 (ptr H.n 0) H46) fun x36 H48 =>
   bnd (AX n 81 [x35, x36, (.int .i64 3)] H48) fun x37 H50 =>
   bnd (AX n 79 [x37] H50) fun x38 H52 =>
   f57_L0 real (AX n) n n x38 (.string ⟨#[91, 94]⟩) (.int .i64 0) H52)
  (f57_L0 real (AX n) n n v (.string ⟨#[91]⟩) (.int .i64 0) H44)) (.string (strOf (if l.length = 255 ∧ s.testBit 10 = false then [46] else if 128 < l.length ∧ l.length < 256 then 91 :: 94 :: clsN (notS s) ++ [93] else 91 :: listN (byteN classL) l 257 0 ++ [93])), H') ∧ Keep (all H) H H' := by
  intro G kG hn
  rw [if_neg hn]
  have kHG := k2.trans (kG.mono (upA k2))
  have slG := (sl.keep kG).mono (upA kG)
  have direct : ∃ H', Ev (fun n (m : Nat) => f57_L0 real (AX n) n n v (.string ⟨#[91]⟩) (.int .i64 0) G) (.string (strOf (91 :: listN (byteN classL) l 257 0 ++ [93])), H') ∧ Keep (all H) H H' := by
   have sl' := slG
   rw [← hl] at sl'
   obtain ⟨H', r1, r2⟩ := lst s v G [91] (by simp) sl'
   rw [hl] at r1
   exact ⟨H', Ev.loop r1, kHG.trans (r2.mono (upA kHG))⟩
  by_cases h128 : 128 < l.length
  ·have e2 : ((l.length : Int) > 128) = True := eq_true (by omega)
   by_cases h256 : l.length < 256
   ·rw [if_pos ⟨h128, h256⟩]
    have e3 : ((l.length : Int) < 256) = True := eq_true (by omega)
    obtain ⟨H4, c4, k4⟩ := rmix_ok s G
    obtain ⟨w, H5, c5, sl5, k5⟩ := rall_ok (notUp s 256) H4
    obtain ⟨H', r1, r2⟩ := lst (notUp s 256) w H5 [91, 94] (by simp) sl5
    have ee : [91, 94] ++ listN (byteN classL) (setL (notUp s 256)) 257 0 ++ [93] = 91 :: 94 :: clsN (notS s) ++ [93] := by
     rw [notUp_setL]; rfl
    rw [ee] at r1
    have k5' := kHG.trans ((k4.trans (k5.mono (upA k4))).mono (upA kHG))
    refine ⟨H', ?_, k5'.trans (r2.mono (upA k5'))⟩
    simp only [ruZ, Int.reduceBEq, Int.reduceBNe, slG.lenS, e2, e3, la (k2'.trans (kG.mono (upA k2')))]
    refine Ev.callC c4 ?_
    refine Ev.callC c5 ?_
    exact Ev.loop r1
   ·rw [if_neg fun h => h256 h.2]
    have e3 : ((l.length : Int) < 256) = False := eq_false (by omega)
    obtain ⟨H', r1, r2⟩ := direct
    refine ⟨H', ?_, r2⟩
    simp only [ruZ, Int.reduceBEq, Int.reduceBNe, slG.lenS, e2, e3]
    exact r1
  ·rw [if_neg fun h => h128 h.1]
   have e2 : ((l.length : Int) > 128) = False := eq_false (by omega)
   obtain ⟨H', r1, r2⟩ := direct
   refine ⟨H', ?_, r2⟩
   simp only [ruZ, Int.reduceBEq, Int.reduceBNe, slG.lenS, e2]
   exact r1
 by_cases h255 : l.length = 255
 ·have e2 : ((l.length : Int) == 255) = true := by rw [h255]; rfl
  obtain ⟨H3, c3, k3⟩ := rhas s (show 10 < 256 by omega) H2
  by_cases hb10 : s.testBit 10 = false
  ·refine ⟨H3, Ev.enter (fun n => f57_eq rfl n _ _) ?_, k2.trans (k3.mono (upA k2))⟩
   rw [if_pos ⟨h255, hb10⟩]
   simp only [f57, ruA, newA (SC_one s), hH1, la (Keep.refl _ _)]
   refine Ev.callC c2 ?_
   simp only [ruZ, Int.reduceBEq, Int.reduceBNe, sl.lenS, e1, e0, e2, la k2']
   refine Ev.callC c3 ?_
   simp only [ruZ, Int.reduceBEq, Int.reduceBNe, hb10]
   exact Ev.pure _
  ·have hb' : s.testBit 10 = true := by simpa using hb10
   rw [hb'] at c3
   obtain ⟨H', r1, r2⟩ := tail H3 k3 fun h => hb10 h.2
   refine ⟨H', Ev.enter (fun n => f57_eq rfl n _ _) ?_, r2⟩
   simp only [f57, ruA, newA (SC_one s), hH1, la (Keep.refl _ _)]
   refine Ev.callC c2 ?_
   simp only [ruZ, Int.reduceBEq, Int.reduceBNe, sl.lenS, e1, e0, e2, la k2']
   refine Ev.callC c3 ?_
   simp only [ruZ, Int.reduceBEq, Int.reduceBNe]
   simp only [ruZ, Int.reduceBEq, Int.reduceBNe] at r1
   exact r1
 ·have e2 : ((l.length : Int) == 255) = false := by
   have := k_eq' (a := l.length) (k := 255)
   rw [decide_eq_false h255] at this; exact this
  obtain ⟨H', r1, r2⟩ := tail H2 (Keep.refl _ _) fun h => h255 h.1
  refine ⟨H', Ev.enter (fun n => f57_eq rfl n _ _) ?_, r2⟩
  simp only [f57, ruA, newA (SC_one s), hH1, la (Keep.refl _ _)]
  refine Ev.callC c2 ?_
  simp only [ruZ, Int.reduceBEq, Int.reduceBNe, sl.lenS, e1, e0, e2]
  simp only [ruZ, Int.reduceBEq, Int.reduceBNe, sl.lenS] at r1
  exact r1
end Go.Eng
