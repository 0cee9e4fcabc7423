/- The reference's rounds; what a block makes. -/
import Derived.Test.YtmajmmknpajcgaaUA
import Derived.Test.YtmajmmknpajcgaaSQ
import Derived.Test.YtmajmmknpajcgaaST
set_option linter.unusedVariables false
set_option linter.unusedSimpArgs false
set_option linter.unusedSectionVars false
set_option maxRecDepth 100000
namespace Go.Eng
open Go Go.Proofs

/-- The first i words are added. -/
def mixL (s t : S8) (i : Nat) : List UInt32 := (s.add t).l.take i ++ s.l.drop i
theorem mixL_len (s t : S8) {i : Nat} (h : i ≤ 8) : (mixL s t i).length = 8 := by
  have h1 : (s.add t).l.length = 8 := rfl
  have h2 : s.l.length = 8 := rfl
  simp [mixL, h1, h2]; omega
theorem add_at (s t : S8) {i : Nat} (h : i < 8) : (s.add t).l[i]? = some (s.l.getD i 0 + t.l.getD i 0) := by
  have : i = 0 ∨ i = 1 ∨ i = 2 ∨ i = 3 ∨ i = 4 ∨ i = 5 ∨ i = 6 ∨ i = 7 := by omega
  rcases this with rfl | rfl | rfl | rfl | rfl | rfl | rfl | rfl <;> rfl
theorem l_at (s : S8) {i : Nat} (h : i < 8) : s.l[i]? = some (s.l.getD i 0) := by
  have : i = 0 ∨ i = 1 ∨ i = 2 ∨ i = 3 ∨ i = 4 ∨ i = 5 ∨ i = 6 ∨ i = 7 := by omega
  rcases this with rfl | rfl | rfl | rfl | rfl | rfl | rfl | rfl <;> rfl
theorem mixL_at (s t : S8) {i : Nat} (h : i < 8) : (mixL s t i)[i]? = some (s.l.getD i 0) := by
  have h1 : ((s.add t).l.take i).length = i := by rw [List.length_take]; show min i 8 = i; omega
  rw [mixL, List.getElem?_append_right (by omega), h1, Nat.sub_self, List.getElem?_drop, Nat.add_zero, l_at s h]
theorem mixL_set (s t : S8) {i : Nat} (h : i < 8) : (mixL s t i).set i (s.l.getD i 0 + t.l.getD i 0) = mixL s t (i + 1) := by
  have h1 : ((s.add t).l.take i).length = i := by rw [List.length_take]; show min i 8 = i; omega
  rw [mixL, List.set_append_right (h := by omega), h1, Nat.sub_self, mixL, List.take_add_one, add_at s t h]
  obtain ⟨x, hx, hd⟩ := drop_at (l := s.l) (i := i) (by show i < 8; omega)
  rw [hd]
  simp
section
variable {b3 b6 b7 : Nat} {s t : S8} (n36 : b3 ≠ b6) (n37 : b3 ≠ b7) (n67 : b6 ≠ b7)
include n36 n37 n67
theorem rounds_L1 : ∀ (k i : Nat) (H : Heap), i + k = 8 → H.get b3 = some ⟨WC (mixL s t i), 1, true⟩ → H.get b6 = some ⟨WC (List.replicate 8 0), 1, true⟩ → H.get b7 = some ⟨WC t.l, 1, true⟩ →
    ∃ H', Ev (fun n m => f36_L1 real (AC n) n m (ptr b3 0) (ptr b6 0) (ptr b7 0) (.int .i64 (i : Int)) H) (.agg (WC (s.add t).l).toArray, H') ∧ Keep (fun b => b ≠ b3 ∧ b ≠ b6) H H' := by
  intro k
  induction k with
  | zero =>
    intro i H hi h3 h6 h7
    obtain rfl : i = 8 := by omega
    have hm : mixL s t 8 = (s.add t).l := by unfold mixL; rfl
    rw [hm] at h3
    refine ⟨H.upd b6 (some ⟨WC (s.add t).l, 1, true⟩), Ev.step (fun n m => f36_L1.eq_2 _ _ _ _ _ _ _ _ m) ?_, Keep.upd fun h => h.2 rfl⟩
    have e : (((8 : Nat) : Int) < 8) = False := by simp
    simp only [ruA, ruB, ruC, ruE, ruD, lenStr, Int.reduceBEq, Int.reduceBNe, e, ldAG h3 (WC8 _), stG h6 (by rfl) (WC8 (s.add t)) (WC_one _), ldAG (H := H.upd b6 (some ⟨WC (s.add t).l, 1, true⟩)) upd_self (WC8 _), Option.map_some, resM1, one1]
    exact Ev.pure _
  | succ k ih =>
    intro i H hi h3 h6 h7
    obtain ⟨H1, hH1⟩ : ∃ H1, H.upd b3 (some ⟨WC (mixL s t (i + 1)), 1, true⟩) = H1 := ⟨_, rfl⟩
    have k0 : Keep (fun b => b ≠ b3 ∧ b ≠ b6) H H1 := by rw [← hH1]; exact Keep.upd fun h => h.1 rfl
    obtain ⟨H', c1, k1⟩ := ih (i + 1) H1 (by omega) (by rw [← hH1]; exact upd_self) (by rw [← hH1, upd_ne (Ne.symm n36)]; exact h6) (by rw [← hH1, upd_ne (Ne.symm n37)]; exact h7)
    refine ⟨H', Ev.step (fun n m => f36_L1.eq_2 _ _ _ _ _ _ _ _ m) ?_, k0.trans k1⟩
    have e : ((i : Int) < 8) = True := eq_true (by omega)
    have st : stV 1 (ptr b3 i) (iv (s.l.getD i 0 + t.l.getD i 0)) H = some (undef, H1) := by
      rw [stV1_box h3 (by rw [WC_len, mixL_len s t (by omega)]; omega) iv_cells iv_one, WC_set, mixL_set s t (by omega), hH1]
    simp only [ruA, ruB, ruC, ruE, ruD, lenStr, Int.reduceBEq, Int.reduceBNe, e, iA (show i < 8 by omega), ldG h3 (WC_at (mixL_at s t (i := i) (by omega))), ldG h7 (WC_at (l_at t (i := i) (by omega))), w_add, st, idx_up (show i < 9223372036854775807 by omega)]
    exact c1
end
theorem rounds_L0 {L : Heap} {b3 b6 : Nat} {s0 : S8} {K W : List UInt32} {vw vk : Value} (n36 : b3 ≠ b6) (l3 : b3 < L.n) (l6 : b6 < L.n) (g3 : L.get b3 = some ⟨WC s0.l, 1, true⟩) (g6 : L.get b6 = some ⟨WC (List.replicate 8 0), 1, true⟩)
    (hw : Sl (all L) L 1 vw W.length (WC W)) (hk : Sl (all L) L 1 vk K.length (WC K)) (hK : K.length = 64) (hW : W.length = 64) : ∀ (k i : Nat) (s : S8), i + k = 64 →
    ∃ H', Ev (fun n m => f36_L0 real (AC n) n m vw vk (ptr b3 0) (ptr b6 0) (ptr L.n 0) (.int .i64 (i : Int)) (L.push ⟨WC s.l, 1, true⟩)) (.agg (WC (s0.add (rnds ((K.zip W).drop i) s)).l).toArray, H') ∧ Keep (fun b => b < L.n ∧ b ≠ b3 ∧ b ≠ b6) L H' := by
  intro k
  induction k with
  | zero =>
    intro i s hi
    have e0 : (K.zip W).drop i = [] := List.drop_eq_nil_of_le (by rw [List.length_zip]; omega)
    have ef : rnds ((K.zip W).drop i) s = s := by rw [e0]; rfl
    rw [ef]
    have hm : mixL s0 s 0 = s0.l := by unfold mixL; rfl
    obtain ⟨H', c1, k1⟩ := rounds_L1 (b3 := b3) (b6 := b6) (b7 := L.n) (s := s0) (t := s) n36 (by omega) (by omega) 8 0 (L.push ⟨WC s.l, 1, true⟩) (by omega) (by rw [push_lt l3, hm]; exact g3) (by rw [push_lt l6]; exact g6) push_self
    refine ⟨H', Ev.step (fun n m => f36_L0.eq_2 _ _ _ _ _ _ _ _ _ _ m) ?_, (Keep.push fun b hb => hb.1).trans (k1.mono fun b hb => hb.2)⟩
    have e : ((i : Int) < 64) = False := eq_false (by omega)
    simp only [ruA, ruB, ruC, ruE, ruD, lenStr, Int.reduceBEq, Int.reduceBNe, e]
    exact Ev.loop c1
  | succ k ih =>
    intro i s hi
    obtain ⟨kk, hk1, _⟩ := drop_at (l := K) (i := i) (by omega)
    obtain ⟨ww, hw1, _⟩ := drop_at (l := W) (i := i) (by omega)
    have ed := zip_at hk1 hw1
    have ef : rnds ((K.zip W).drop i) s = rnds ((K.zip W).drop (i + 1)) (rnd s kk ww) := by rw [ed]; rfl
    rw [ef]
    obtain ⟨H', c1, k1⟩ := ih (i + 1) (rnd s kk ww) (by omega)
    refine ⟨H', Ev.step (fun n m => f36_L0.eq_2 _ _ _ _ _ _ _ _ _ _ m) ?_, k1⟩
    have e : ((i : Int) < 64) = True := eq_true (by omega)
    obtain ⟨pk, pk1, pk2⟩ := (hk.keep (H' := L.push ⟨WC s.l, 1, true⟩) push_keep).at1 (WC_at hk1)
    obtain ⟨pw, pw1, pw2⟩ := (hw.keep (H' := L.push ⟨WC s.l, 1, true⟩) push_keep).at1 (WC_at hw1)
    have a : ∀ j : Nat, j < 8 → iAddrA 8 1 (ptr L.n 0) (.int .i64 (j : Int)) = some (ptr L.n j) := fun j hj => iA hj
    have a0 := a 0 (by omega)
    have a1 := a 1 (by omega)
    have a2 := a 2 (by omega)
    have a3 := a 3 (by omega)
    have a4 := a 4 (by omega)
    have a5 := a 5 (by omega)
    have a6 := a 6 (by omega)
    have a7 := a 7 (by omega)
    simp only [Int.cast_ofNat_Int] at a0 a1 a2 a3 a4 a5 a6 a7
    have d0 : ldC (ptr L.n 0) (L.push ⟨WC s.l, 1, true⟩) = some (iv s.a, L.push ⟨WC s.l, 1, true⟩) := ldp rfl
    have d1 : ldC (ptr L.n 1) (L.push ⟨WC s.l, 1, true⟩) = some (iv s.b, L.push ⟨WC s.l, 1, true⟩) := ldp rfl
    have d2 : ldC (ptr L.n 2) (L.push ⟨WC s.l, 1, true⟩) = some (iv s.c, L.push ⟨WC s.l, 1, true⟩) := ldp rfl
    have d3 : ldC (ptr L.n 3) (L.push ⟨WC s.l, 1, true⟩) = some (iv s.d, L.push ⟨WC s.l, 1, true⟩) := ldp rfl
    have d4 : ldC (ptr L.n 4) (L.push ⟨WC s.l, 1, true⟩) = some (iv s.e, L.push ⟨WC s.l, 1, true⟩) := ldp rfl
    have d5 : ldC (ptr L.n 5) (L.push ⟨WC s.l, 1, true⟩) = some (iv s.f, L.push ⟨WC s.l, 1, true⟩) := ldp rfl
    have d6 : ldC (ptr L.n 6) (L.push ⟨WC s.l, 1, true⟩) = some (iv s.g, L.push ⟨WC s.l, 1, true⟩) := ldp rfl
    have d7 : ldC (ptr L.n 7) (L.push ⟨WC s.l, 1, true⟩) = some (iv s.h, L.push ⟨WC s.l, 1, true⟩) := ldp rfl
    have hb := bld8 (H := L.push ⟨WC s.l, 1, true⟩) (s := rnd s kk ww)
    have hst := stA_push (H := L) (cs := WC s.l) (ds := WC (rnd s kk ww).l) (n := 8) (WC8 s) (WC8 _) (WC_one _)
    simp only [rnd, onew, sm1, sm0, chw, mjw] at hb
    simp only [ruA, ruB, ruC, ruE, ruD, lenStr, Int.reduceBEq, Int.reduceBNe, e, a4, d4]
    refine Ev.callC (rturn_ok (n := 6) (by omega) (by omega)) ?_
    simp only [ruA, ruB, ruC, ruE, ruD, lenStr, Int.reduceBEq, Int.reduceBNe, same_refl, Bool.and_true, a4, d4]
    refine Ev.callC (rturn_ok (n := 11) (by omega) (by omega)) ?_
    simp only [ruA, ruB, ruC, ruE, ruD, lenStr, Int.reduceBEq, Int.reduceBNe, same_refl, Bool.and_true, w_xor, a4, d4]
    refine Ev.callC (rturn_ok (n := 25) (by omega) (by omega)) ?_
    simp only [ruA, ruB, ruC, ruE, ruD, lenStr, Int.reduceBEq, Int.reduceBNe, same_refl, Bool.and_true, w_xor, w_add, w_and, w_not, a4, d4, a5, d5, a6, d6, a7, d7, pk1, pk2, pw1, pw2, a0, d0]
    refine Ev.callC (rturn_ok (n := 2) (by omega) (by omega)) ?_
    simp only [ruA, ruB, ruC, ruE, ruD, lenStr, Int.reduceBEq, Int.reduceBNe, same_refl, Bool.and_true, a0, d0]
    refine Ev.callC (rturn_ok (n := 13) (by omega) (by omega)) ?_
    simp only [ruA, ruB, ruC, ruE, ruD, lenStr, Int.reduceBEq, Int.reduceBNe, same_refl, Bool.and_true, w_xor, a0, d0]
    refine Ev.callC (rturn_ok (n := 22) (by omega) (by omega)) ?_
    simp only [ruA, ruB, ruC, ruE, ruD, lenStr, Int.reduceBEq, Int.reduceBNe, same_refl, Bool.and_true, w_xor, w_add, w_and, a0, d0, a1, d1, a2, d2, a3, d3, a4, d4, a5, d5, a6, d6, hb]
    have hst' : stV 8 (ptr L.n 0) (.agg (WC (rnd s kk ww).l).toArray) (L.push ⟨WC s.l, 1, true⟩) = some (undef, L.push ⟨WC (rnd s kk ww).l, 1, true⟩) := hst
    simp only [rnd, onew, sm1, sm0, chw, mjw] at hst' c1
    simp only [hst', ruA, ruB, ruC, ruE, ruD, lenStr, Int.reduceBEq, Int.reduceBNe, idx_up (show i < 9223372036854775807 by omega)]
    exact c1
theorem rounds_ok {H : Heap} {s : S8} {K W : List UInt32} {vw vk : Value} (hw : Sl (all H) H 1 vw W.length (WC W)) (hk : Sl (all H) H 1 vk K.length (WC K)) (hK : K.length = 64) (hW : W.length = 64) :
    ∃ H', Cl 36 [.agg (WC s.l).toArray, vw, vk] H (.agg (WC (blkW s K W).l).toArray) H' ∧ Keep (all H) H H' := by
  obtain ⟨L, hL⟩ : ∃ L, (H.push ⟨WC s.l, 1, true⟩).push ⟨WC (List.replicate 8 0), 1, true⟩ = L := ⟨_, rfl⟩
  have nL : L.n = H.n + 2 := by rw [← hL]; rfl
  have kL : Keep (all H) H L := by rw [← hL]; exact push_keep.trans (push_keep.mono (upA push_keep))
  have g3 : L.get H.n = some ⟨WC s.l, 1, true⟩ := by rw [← hL, push_lt (by simp [push_n])]; exact push_self
  have g6 : L.get (H.n + 1) = some ⟨WC (List.replicate 8 0), 1, true⟩ := by rw [← hL]; exact push_self
  obtain ⟨H', c1, k1⟩ := rounds_L0 (L := L) (b3 := H.n) (b6 := H.n + 1) (by omega) (by omega) (by omega) g3 g6 ((hw.keep kL).mono (upA kL)) ((hk.keep kL).mono (upA kL)) hK hW 64 0 s (by omega)
  refine ⟨H', Ev.enter (fun n => f36_eq rfl n _ _ _ _) ?_, kL.trans (k1.mono fun b hb => by have : b < H.n := hb; exact ⟨by omega, by omega, by omega⟩)⟩
  have ld : Eng.ldA 8 (ptr H.n 0) L = some (.agg (WC s.l).toArray, L) := ldAG g3 (WC8 s)
  simp only [f36, ruA, newA (WC_one s.l)]
  rw [zero8]
  simp only [ruA, newV_box (WC_one _), push_n, hL, ld]
  rw [stA_push (by rfl) (WC8 s) (WC_one _)]
  exact Ev.loop c1
theorem rblock_ok {H : Heap} {d : List Nat} {v : Value} (s : S8) (hd : d.length = 64) (hb : ∀ c ∈ d, c < 256) (hs : Sl (all H) H 1 v d.length (B d)) :
    ∃ H', Cl 16 [.agg (WC s.l).toArray, v] H (.tuple #[.agg (WC (blk s d).l).toArray, .int .i64 0]) H' ∧ Keep (all H) H H' := by
  obtain ⟨H1, hH1⟩ : ∃ H1, (H.push ⟨WC s.l, 1, true⟩).push ⟨WC (List.replicate 8 0), 1, true⟩ = H1 := ⟨_, rfl⟩
  have k1 : Keep (all H) H H1 := by rw [← hH1]; exact push_keep.trans (push_keep.mono (upA push_keep))
  have n1 : H1.n = H.n + 2 := by rw [← hH1]; rfl
  have g2 : H1.get H.n = some ⟨WC s.l, 1, true⟩ := by rw [← hH1, push_lt (by simp [push_n])]; exact push_self
  have g4 : H1.get (H.n + 1) = some ⟨WC (List.replicate 8 0), 1, true⟩ := by rw [← hH1]; exact push_self
  obtain ⟨vw, H2, c2, k2, a2⟩ := rwords_ok hd hb ((hs.keep k1).mono (upA k1))
  obtain ⟨vk, H3, c3, k3, a3⟩ := rts_ok (p := 3) (many := 64) (.inr rfl) (by omega) rts3 H2
  have hW : (sched d).length = 64 := sched_len d
  have w2 : Sl (all H2) H2 1 vw (sched d).length (WC (sched d)) := by rw [hW]; exact a2.sl
  have w3 : Sl (all H3) H3 1 vw (sched d).length (WC (sched d)) := (w2.keep k3).mono (upA k3)
  have hk3 : Sl (all H3) H3 1 vk KK.length (WC KK) := a3.sl
  obtain ⟨H4, c4, k4⟩ := rounds_ok (s := s) w3 hk3 rfl hW
  have n2 := k2.1
  have n3 := k3.1
  have n4 := k4.1
  have g4' : H4.get (H.n + 1) = some ⟨WC (List.replicate 8 0), 1, true⟩ := by
    rw [k4.2 _ (show H.n + 1 < H3.n by omega), k3.2 _ (show H.n + 1 < H2.n by omega), k2.2 _ (show H.n + 1 < H1.n by omega)]; exact g4
  have kk : Keep (all H) H H4 := k1.trans ((k2.mono (upA k1)).trans ((k3.mono (fun b hb => by have : b < H.n := hb; show b < H2.n; omega)).trans (k4.mono fun b hb => by have : b < H.n := hb; show b < H3.n; omega)))
  refine ⟨H4.upd (H.n + 1) (some ⟨WC (blk s d).l, 1, true⟩), Ev.enter (fun n => f16_eq rfl n _ _ _) ?_, kk.trans (Keep.upd fun h => by have : H.n + 1 < H.n := h; omega)⟩
  have hlen : lenS v = some (.int .i64 64) := by have := hs.lenS; rwa [hd] at this
  have ld : Eng.ldA 8 (ptr H.n 0) H1 = some (.agg (WC s.l).toArray, H1) := ldAG g2 (WC8 s)
  have sb1 : sameBlk H1 H2 (blkOf (ptr H.n 0)) = true := (Box.blk (R := all H1) (cs := WC s.l) ⟨show H.n < H1.n by omega, _, _, g2⟩ k2)
  have sb2 : sameBlk H2 H3 (blkOf (ptr H.n 0)) = true := (Box.blk (R := all H2) (cs := WC s.l) ⟨show H.n < H2.n by omega, _, _, by rw [k2.2 _ (show H.n < H1.n by omega)]; exact g2⟩ k3)
  simp only [f16, ruA, newA (WC_one s.l)]
  rw [zero8]
  simp only [ruA, newV_box (WC_one _), hlen, push_n, hH1, ruC Try.prog 3 .i64, bt_bne, ld]
  refine Ev.callC c2 ?_
  simp only [ruA, sb1, Bool.and_true]
  refine Ev.callC c3 ?_
  simp only [ruA, sb2, Bool.and_true]
  refine Ev.callC c4 ?_
  have hbw : blkW s KK (sched d) = blk s d := rfl
  rw [hbw]
  simp only [ruA, stG g4' (by rfl) (WC8 (blk s d)) (WC_one _), ldAG (H := H4.upd (H.n + 1) (some ⟨WC (blk s d).l, 1, true⟩)) upd_self (WC8 _), Option.map_some, resM2, one2]
  exact Ev.pure _
theorem rblock_no {H : Heap} {v : Value} {n : Nat} {cs : List Value} (s : S8) (hn : n ≠ 64) (hs : Sl (all H) H 1 v n cs) :
    ∃ H', Cl 16 [.agg (WC s.l).toArray, v] H (.tuple #[.agg (WC (List.replicate 8 0)).toArray, .int .i64 2]) H' ∧ Keep (all H) H H' := by
  refine ⟨(H.push ⟨WC s.l, 1, true⟩).push ⟨WC (List.replicate 8 0), 1, true⟩, ?_, push_keep.trans (push_keep.mono (upA push_keep))⟩
  refine Ev.enter (fun n => f16_eq rfl n _ _ _) ?_
  have hne : ((n : Int) != 64) = true := by simp; omega
  simp only [f16, ruA, newA (WC_one s.l)]
  rw [zero8]
  simp only [ruA, newV_box (WC_one _), hs.lenS, ruC Try.prog 3 .i64, hne]
  rw [← zero8, bld80]
  simp only [ruA]
  rw [zero8, stA_push (by rfl) (by rfl) (WC_one _)]
  simp only [ruA]
  rw [ldA_push (by rfl)]
  simp only [Option.map_some, resM2, one2]
  exact Ev.pure _
theorem copy_ok {H : Heap} {d : List Nat} {v : Value} (hs : Sl (all H) H 1 v d.length (B d)) (hd : d.length ≤ 1000000000) : ∃ v' H', Cl 14 [v] H v' H' ∧ Keep (all H) H H' ∧ Sl (all H') H' 1 v' d.length (B d) := by
  have hmb : mostBytes = 140737488355328 := rfl
  obtain ⟨v', H', a1, a2, a3⟩ := (Acc.nil (R := all H) (H := H) (sz := 1)).app (by_ := 1) (Rb.all H) hs.addend (by rw [B_length]; omega) (by omega)
  refine ⟨v', H', Ev.enter (fun n => f14_eq rfl n _ _) ?_, a3, ?_⟩
  · simp only [f14, ruA, ruB, ruC, ruE, ruD, lenStr, Int.reduceBEq, Int.reduceBNe, a1]
    exact Ev.pure _
  · have := a2.sl
    rwa [List.nil_append, Nat.zero_add] at this
theorem blocks_law {H : Heap} (s : S8) {d : List Nat} {v : Value} (hs : Sl (all H) H 1 v d.length (B d)) (hb : ∀ c ∈ d, c < 256) (hd : d.length ≤ 1000000000) : ∃ H', Cl 4 [.agg (WC s.l).toArray, v] H (.bool true) H' := by
  obtain ⟨H1, hH1⟩ : ∃ H1, H.push ⟨WC s.l, 1, true⟩ = H1 := ⟨_, rfl⟩
  have n1 : H1.n = H.n + 1 := by rw [← hH1]; rfl
  have k1 : Keep (all H) H H1 := by rw [← hH1]; exact push_keep
  have g1 : H1.get H.n = some ⟨WC s.l, 1, true⟩ := by rw [← hH1]; exact push_self
  have hs1 : Sl (all H1) H1 1 v d.length (B d) := (hs.keep k1).mono (upA k1)
  obtain ⟨vc, H2, c2, k2, s2⟩ := copy_ok hs1 hd
  have n2 := k2.1
  have g2 : H2.get H.n = some ⟨WC s.l, 1, true⟩ := by rw [k2.2 _ (show H.n < H1.n by omega)]; exact g1
  have both : ∃ (o : List UInt32) (e : Int), o.length = 8 ∧ (∃ H3, Cl 15 [.agg (WC s.l).toArray, vc] H2 (.tuple #[.agg (WC o).toArray, .int .i64 e]) H3 ∧ Keep (all H2) H2 H3) ∧
      ∀ K, Keep (all H2) H2 K → ∃ H3, Cl 16 [.agg (WC s.l).toArray, v] K (.tuple #[.agg (WC o).toArray, .int .i64 e]) H3 ∧ Keep (all K) K H3 := by
    have hv : ∀ K, Keep (all H2) H2 K → Sl (all K) K 1 v d.length (B d) := fun K hK => ((hs1.keep k2).keep (hK.mono (upA k2))).mono fun b hb => by have : b < H1.n := hb; have := hK.1; show b < K.n; omega
    by_cases h64 : d.length = 64
    · obtain ⟨H3, c3, k3⟩ := block_ok s h64 hb s2
      exact ⟨(blk s d).l, 0, rfl, ⟨H3, c3, k3⟩, fun K hK => rblock_ok s h64 hb (hv K hK)⟩
    · obtain ⟨H3, c3, k3⟩ := block_no s h64 s2
      exact ⟨List.replicate 8 0, 2, rfl, ⟨H3, c3, k3⟩, fun K hK => rblock_no s h64 (hv K hK)⟩
  obtain ⟨o, e, ho, ⟨H3, c3, k3⟩, hr⟩ := both
  have hoW : (WC o).length = 8 := by rw [WC_len, ho]
  have n3 := k3.1
  obtain ⟨H4, hH4⟩ : ∃ H4, H3.push ⟨WC o, 1, true⟩ = H4 := ⟨_, rfl⟩
  have n4 : H4.n = H3.n + 1 := by rw [← hH4]; rfl
  have k24 : Keep (all H2) H2 H4 := by rw [← hH4]; exact k3.trans (push_keep.mono (upA k3))
  have g4 : H4.get H.n = some ⟨WC s.l, 1, true⟩ := by rw [k24.2 _ (show H.n < H2.n by omega)]; exact g2
  have ff4 : H4.get H3.n = some ⟨WC o, 1, true⟩ := by rw [← hH4]; exact push_self
  obtain ⟨H5, c5, k5⟩ := hr H4 k24
  have n5 := k5.1
  obtain ⟨H6, hH6⟩ : ∃ H6, H5.push ⟨WC o, 1, true⟩ = H6 := ⟨_, rfl⟩
  have ff6 : H6.get H3.n = some ⟨WC o, 1, true⟩ := by rw [← hH6, push_lt (by omega), k5.2 _ (show H3.n < H4.n by omega)]; exact ff4
  have ff6' : H6.get H5.n = some ⟨WC o, 1, true⟩ := by rw [← hH6]; exact push_self
  have k26 : Keep (all H2) H2 H6 := by rw [← hH6]; exact (k24.trans (k5.mono (upA k24))).trans (Keep.push fun b hb => by have : b < H2.n := hb; omega)
  have sc : Sl (all H6) H6 1 vc d.length (B d) := (s2.keep k26).mono (upA k26)
  have sv : Sl (all H6) H6 1 v d.length (B d) := ((hs1.keep k2).keep (k26.mono (upA k2))).mono fun b hb => by have : b < H1.n := hb; have := k26.1; show b < H6.n; omega
  have hq := eqb_ok sc sv (by omega)
  rw [decide_eq_true rfl] at hq
  obtain ⟨H', ha, _⟩ := awake_ok H6
  have ew := eq_words ho
  have ee : (e == e) = true := by simp
  refine ⟨H', Ev.enter (fun n => f4_eq rfl n _ _ _) ?_⟩
  simp only [f4, ruA, ruB, ruC, ruE, ruD, lenStr, Int.reduceBEq, Int.reduceBNe, newA (WC_one s.l), hH1]
  refine Ev.callC c2 ?_
  simp only [ruA, ruB, ruC, ruE, ruD, lenStr, Int.reduceBEq, Int.reduceBNe, ldAG g2 (WC8 s)]
  refine Ev.callC c3 ?_
  rw [zero8]
  simp only [ruA, ruB, ruC, ruE, ruD, lenStr, Int.reduceBEq, Int.reduceBNe, newV_box (WC_one _)]
  rw [stA_push (by rfl) hoW (WC_one _), hH4]
  simp only [ruA, ruB, ruC, ruE, ruD, lenStr, Int.reduceBEq, Int.reduceBNe, ldAG g4 (WC8 s)]
  refine Ev.callC c5 ?_
  simp only [ruA, ruB, ruC, ruE, ruD, lenStr, Int.reduceBEq, Int.reduceBNe, newV_box (WC_one _)]
  rw [stA_push (by rfl) hoW (WC_one _), hH6]
  simp only [ruA, ruB, ruC, ruE, ruD, lenStr, Int.reduceBEq, Int.reduceBNe, ldAG ff6 hoW, ldAG ff6' hoW, ew, ee]
  refine Ev.callC hq ?_
  simp only [ruA, ruB, ruC, ruE, ruD, lenStr, Int.reduceBEq, Int.reduceBNe]
  refine Ev.callC ha ?_
  exact Ev.pure _
end Go.Eng
