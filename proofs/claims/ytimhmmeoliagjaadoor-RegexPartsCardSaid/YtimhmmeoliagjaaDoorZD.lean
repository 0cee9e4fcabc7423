/- RegexParts, walked. -/
import Derived.Test.YtimhmmeoliagjaaDoorZC
set_option linter.unusedVariables false
set_option linter.unusedSimpArgs false
set_option linter.unusedSectionVars false
set_option maxRecDepth 100000
namespace Go.Eng
open Go Go.Proofs

def preK (p : Nat → Bool) : Nat → Bool
  | 0 => false
  | k + 1 => preK p k || p k
theorem anyK_pre (p : Nat → Bool) : ∀ n, anyK p n = preK p (n + 1)
  | 0 => by simp [anyK, preK]
  | n + 1 => by rw [anyK, anyK_pre p n]; rfl
section
variable {a b : Rx} {T : List Nat} {G0 : Heap} {q3 q4 : Nat} {va vb vt : Value}
def cutP (a b : Rx) (T : List Nat) (k : Nat) : Bool := takesN (a.flat 0) (T.take k) && takesN (b.flat 0) (T.drop k)
def manP (a : Rx) (T : List Nat) (k : Nat) : Bool := decide (0 < k) && (takesN (a.flat 0) (T.take k) && takesN ((Rx.star a).flat 0) (T.drop k))
theorem parts_end (ha : a.size ≤ 200) (hb : b.size ≤ 200) (hT : T.length ≤ 12) {G : Heap} (kG : Keep (all G0) G0 G) (h3 : q3 < G0.n) (g3 : G0.get q3 = some ⟨[va], 1, true⟩) (ta : Tv G0 va a) (ht : Sl (all G0) G0 1 vt T.length (B T)) :
    ∃ G', Ev (fun n m => f7_L0 real (AX n) n m vt (ptr q3 0) (ptr q4 0) (.bool (takesN ((Rx.alt a b).flat 0) T)) (.int .i64 0) (.bool (takesN ((Rx.seq a b).flat 0) T)) (.int .i64 0) (.bool (takesN ((Rx.star a).flat 0) T)) (.int .i64 0) (.bool (takesN ((Rx.plus a).flat 0) T)) (.int .i64 0)
      (.bool (takesN (a.flat 0) T)) (.int .i64 0) (.bool (takesN (b.flat 0) T)) (.int .i64 0) (.bool (preK (cutP a b T) (T.length + 1))) (.bool (decide (T.length = 0) || preK (manP a T) (T.length + 1))) (.int .i64 ((T.length + 1 : Nat) : Int)) G) (.bool true, G') ∧ Keep (all G0) G0 G' := by
  obtain ⟨G1, c1, k1⟩ := nil_ok (t := a) (by omega) (ta.keep kG)
  refine ⟨G1, Ev.step (fun n m => f7_L0.eq_2 _ _ _ _ _ _ _ _ _ _ _ _ _ _ _ _ _ _ _ _ _ _ m) ?_, kG.trans (k1.mono (upA kG))⟩
  have e : (((T.length + 1 : Nat) : Int) ≤ (T.length : Int)) = False := eq_false (by omega)
  have l3 : ldA 1 (ptr q3 0) G = some (.agg #[va], G) := ldAG (cs := [va]) (by rw [kG.2 _ h3]; exact g3) rfl
  simp only [ruA, ruB, ruC, ruE, ruD, lenStr, Int.reduceBEq, Int.reduceBNe, ht.lenS, e, l3]
  refine Ev.callC c1 ?_
  rw [part_alt (by omega) (by omega), part_plus (by omega), part_star (by omega), part_seq (by omega) (by omega)]
  unfold manyB
  rw [anyK_pre, anyK_pre]
  show Ev _ _
  generalize takesN (a.flat 0) T = X
  generalize takesN (b.flat 0) T = Y
  generalize takesN (a.flat 0) [] = Z
  have em : (preK (fun k => decide (0 < k) && (takesN (a.flat 0) (T.take k) && takesN ((Rx.star a).flat 0) (T.drop k))) (T.length + 1)) = preK (manP a T) (T.length + 1) := rfl
  have ec : (preK (fun k => takesN (a.flat 0) (T.take k) && takesN (b.flat 0) (T.drop k)) (T.length + 1)) = preK (cutP a b T) (T.length + 1) := rfl
  rw [em, ec]
  generalize (decide (T.length = 0) || preK (manP a T) (T.length + 1)) = M
  by_cases hl : 0 < T.length
  · have e1 : ((T.length : Int) > 0) = True := eq_true (by omega)
    rw [decide_eq_true hl]
    cases X <;> cases Y <;> cases Z <;> cases M <;> (simp only [ruA, ruB, ruC, ruE, ruD, lenStr, Int.reduceBEq, Int.reduceBNe, ht.lenS, b_boo, beq_self_eq_true, e1, Bool.true_or, Bool.false_or, Bool.or_true, Bool.or_false, Bool.and_true, Bool.true_and, Bool.and_false, Bool.false_and]; exact Ev.pure _)
  · have e1 : ((T.length : Int) > 0) = False := eq_false (by omega)
    rw [decide_eq_false hl]
    cases X <;> cases Y <;> cases Z <;> cases M <;> (simp only [ruA, ruB, ruC, ruE, ruD, lenStr, Int.reduceBEq, Int.reduceBNe, ht.lenS, b_boo, beq_self_eq_true, e1, Bool.true_or, Bool.false_or, Bool.or_true, Bool.or_false, Bool.and_true, Bool.true_and, Bool.and_false, Bool.false_and]; exact Ev.pure _)
theorem parts_loop (ha : a.size ≤ 200) (hb : b.size ≤ 200) (hT : T.length ≤ 12) (hTb : ∀ x ∈ T, x < 256) (h3 : q3 < G0.n) (g3 : G0.get q3 = some ⟨[va], 1, true⟩) (h4 : q4 < G0.n) (g4 : G0.get q4 = some ⟨[vb], 1, true⟩) (ta : Tv G0 va a) (tb : Tv G0 vb b) (ht : Sl (all G0) G0 1 vt T.length (B T)) :
    ∀ (d k : Nat) (G : Heap), k + d = T.length + 1 → Keep (all G0) G0 G →
    ∃ G', Ev (fun n m => f7_L0 real (AX n) n m vt (ptr q3 0) (ptr q4 0) (.bool (takesN ((Rx.alt a b).flat 0) T)) (.int .i64 0) (.bool (takesN ((Rx.seq a b).flat 0) T)) (.int .i64 0) (.bool (takesN ((Rx.star a).flat 0) T)) (.int .i64 0) (.bool (takesN ((Rx.plus a).flat 0) T)) (.int .i64 0)
      (.bool (takesN (a.flat 0) T)) (.int .i64 0) (.bool (takesN (b.flat 0) T)) (.int .i64 0) (.bool (preK (cutP a b T) k)) (.bool (decide (T.length = 0) || preK (manP a T) k)) (.int .i64 (k : Int)) G) (.bool true, G') ∧ Keep (all G0) G0 G' := by
  intro d
  induction d with
  | zero =>
    intro k G hk kG
    obtain rfl : k = T.length + 1 := by omega
    exact parts_end ha hb hT kG h3 g3 ta ht
  | succ d ih =>
    intro k G hk kG
    have hkl : k ≤ T.length := by omega
    obtain ⟨v1, w1, y1⟩ := By.upto (i := k) ((ht.keep kG).mono (upA kG)) hkl
    obtain ⟨v2, w2, y2⟩ := By.from (k := .i64) (i := k) ((ht.keep kG).mono (upA kG)) hkl
    have b1 : ∀ x ∈ T.take k, x < 256 := fun x hx => hTb x (List.mem_of_mem_take hx)
    have b2 : ∀ x ∈ T.drop k, x < 256 := fun x hx => hTb x (List.mem_of_mem_drop hx)
    have n1 : (T.take k).length ≤ 12 := by rw [List.length_take]; omega
    have n2 : (T.drop k).length ≤ 12 := by rw [List.length_drop]; omega
    obtain ⟨G1, c1, k1⟩ := takesR_ok (t := a) (by omega) (ta.keep kG) y1 b1 (by omega)
    rw [if_neg (by omega)] at c1
    have kG1 := kG.trans (k1.mono (upA kG))
    obtain ⟨G2, c2, k2⟩ := takesR_ok (t := b) (by omega) (tb.keep kG1) ((y2.keep k1).mono (upA k1)) b2 (by omega)
    rw [if_neg (by omega)] at c2
    have kG2 := kG1.trans (k2.mono (upA kG1))
    obtain ⟨vs, G3, c3, t3, k3⟩ := over_ok (k := 5) (.inl rfl) (ta.keep kG2) (by omega)
    have kG3 := kG2.trans (k3.mono (upA kG2))
    have k13 := k1.trans ((k2.trans (k3.mono (upA k2))).mono (upA k1))
    obtain ⟨G4, c4, k4⟩ := takesR_ok (by rw [many_size]; omega) t3 ((y2.keep k13).mono (upA k13)) b2 (by omega)
    rw [if_neg (by omega)] at c4
    have kG4 := kG3.trans (k4.mono (upA kG3))
    obtain ⟨G', r1, r2⟩ := ih (k + 1) G4 (by omega) kG4
    refine ⟨G', Ev.step (fun n m => f7_L0.eq_2 _ _ _ _ _ _ _ _ _ _ _ _ _ _ _ _ _ _ _ _ _ _ m) ?_, r2⟩
    have e : ((k : Int) ≤ (T.length : Int)) = True := eq_true (by omega)
    have ld : ∀ {q : Nat} {x : Value} {A : Heap}, q < G0.n → G0.get q = some ⟨[x], 1, true⟩ → Keep (all G0) G0 A → ldA 1 (ptr q 0) A = some (.agg #[x], A) := fun hq hg kk => ldAG (cs := [_]) (by rw [kk.2 _ hq]; exact hg) rfl
    have hst : many 5 a = .star a := rfl
    rw [hst] at c4
    have ip : preK (cutP a b T) (k + 1) = (preK (cutP a b T) k || (takesN (a.flat 0) (T.take k) && takesN (b.flat 0) (T.drop k))) := rfl
    have iq : (decide (T.length = 0) || preK (manP a T) (k + 1)) = ((decide (T.length = 0) || preK (manP a T) k) || (decide (0 < k) && (takesN (a.flat 0) (T.take k) && takesN ((Rx.star a).flat 0) (T.drop k)))) := by
      rw [Bool.or_assoc]; rfl
    rw [ip, iq] at r1
    simp only [ruA, ruB, ruC, ruE, ruD, lenStr, Int.reduceBEq, Int.reduceBNe, ht.lenS, e, ld h3 g3 kG, w1]
    refine Ev.callC c1 ?_
    simp only [ruA, ruB, ruC, ruE, ruD, lenStr, Int.reduceBEq, Int.reduceBNe, ld h4 g4 kG1, w2]
    refine Ev.callC c2 ?_
    have hup := idx_up (i := k) (by omega)
    have e0 : ((k : Int) > 0) = (0 < k) := by rw [eq_iff_iff]; omega
    revert r1
    generalize takesN (a.flat 0) (T.take k) = X
    generalize takesN (b.flat 0) (T.drop k) = Y
    generalize hZ : takesN ((Rx.star a).flat 0) (T.drop k) = Z
    rw [hZ] at c4
    generalize preK (cutP a b T) k = C
    generalize (decide (T.length = 0) || preK (manP a T) k) = M
    intro r1
    by_cases h0 : 0 < k
    · have e1 : ((k : Int) > 0) = True := eq_true (by omega)
      rw [decide_eq_true h0] at r1
      cases X <;> cases Y <;> cases Z <;> cases C <;> cases M <;> (simp only [ruA, ruB, ruC, ruE, ruD, lenStr, Int.reduceBEq, Int.reduceBNe, ld h3 g3 kG2]; refine Ev.callC c3 ?_; (try simp only [ruA, ruB, ruC, ruE, ruD, lenStr, Int.reduceBEq, Int.reduceBNe, w2]); refine Ev.callC c4 ?_; (try simp only [ruA, ruB, ruC, ruE, ruD, lenStr, Int.reduceBEq, Int.reduceBNe, e1, hup]); exact r1)
    · have e1 : ((k : Int) > 0) = False := eq_false (by omega)
      rw [decide_eq_false h0] at r1
      cases X <;> cases Y <;> cases Z <;> cases C <;> cases M <;> (simp only [ruA, ruB, ruC, ruE, ruD, lenStr, Int.reduceBEq, Int.reduceBNe, ld h3 g3 kG2]; refine Ev.callC c3 ?_; (try simp only [ruA, ruB, ruC, ruE, ruD, lenStr, Int.reduceBEq, Int.reduceBNe, w2]); refine Ev.callC c4 ?_; (try simp only [ruA, ruB, ruC, ruE, ruD, lenStr, Int.reduceBEq, Int.reduceBNe, e1, hup]); exact r1)
end
theorem parts_ok {H : Heap} (hG : G9 H) {l0 l1 : List Nd} {v0 v1 vt : Value} {T : List UInt8} (s0 : Sl (all H) H 7 v0 l0.length (NDS l0)) (s1 : Sl (all H) H 7 v1 l1.length (NDS l1))
    (z0 : ∀ n ∈ l0, n.set < 2 ^ 256) (z1 : ∀ n ∈ l1, n.set < 2 ^ 256) (ht : Sl (all H) H 1 vt (U T).length (B (U T))) :
    ∃ H', ClX 7 [.agg #[v0], .agg #[v1], vt] H (.bool true) H' ∧ Keep (all H) H H' := by
  obtain ⟨_, o0⟩ := slc_cells s0
  obtain ⟨_, o1⟩ := slc_cells s1
  obtain ⟨H1, hH1⟩ : ∃ H1, H.push ⟨[v0], 1, true⟩ = H1 := ⟨_, rfl⟩
  obtain ⟨H2, hH2⟩ : ∃ H2, H1.push ⟨[v1], 1, true⟩ = H2 := ⟨_, rfl⟩
  have n1 : H1.n = H.n + 1 := by rw [← hH1]; rfl
  have n2 : H2.n = H.n + 2 := by rw [← hH2, push_n, n1]
  have k1 : Keep (all H) H H1 := by rw [← hH1]; exact push_keep
  have k2 : Keep (all H1) H1 H2 := by rw [← hH2]; exact push_keep
  have k12 := k1.trans (k2.mono (upA k1))
  have g1 : H2.get H.n = some ⟨[v0], 1, true⟩ := by rw [k2.2 _ (show H.n < H1.n by omega), ← hH1]; exact push_self
  have g2 : H2.get H1.n = some ⟨[v1], 1, true⟩ := by rw [← hH2]; exact push_self
  have nv1 : newV (Value.cells (.agg #[v0])).toList H = some (ptr H.n 0, H1) := by rw [← hH1]; exact newA (cs := [v0]) (by simp [o0])
  have nv2 : newV (Value.cells (.agg #[v1])).toList H1 = some (ptr H1.n 0, H2) := by rw [← hH2]; exact newA (cs := [v1]) (by simp [o1])
  have ld : ∀ {q : Nat} {x : Value} {A : Heap}, q < H2.n → H2.get q = some ⟨[x], 1, true⟩ → Keep (all H2) H2 A → ldA 1 (ptr q 0) A = some (.agg #[x], A) := fun hq hg kk => ldAG (cs := [_]) (by rw [kk.2 _ hq]; exact hg) rfl
  have lc : ∀ {q : Nat} {x : Value} {A : Heap}, q < H2.n → H2.get q = some ⟨[x], 1, true⟩ → Keep (all H2) H2 A → ldC (ptr q 0) A = some (x, A) := fun hq hg kk => ldG (by rw [kk.2 _ hq]; exact hg) rfl
  have q1 : H.n < H2.n := by omega
  have q2 : H1.n < H2.n := by omega
  obtain ⟨H3, c3, k3⟩ := works_ok (hG.keep k12)
  have k03 := k12.trans (k3.mono (upA k12))
  obtain ⟨H4, c4, k4'⟩ := check_ok ((s0.keep k03).mono (upA k03))
  have k4 := k3.trans (k4'.mono (upA k3))
  have k04 := k12.trans (k4.mono (upA k12))
  by_cases p0 : chkN l0 = 0
  case neg =>
    refine ⟨H4, Ev.enter (fun n => f7_eq rfl n _ _ _ _) ?_, k04⟩
    have e1 : (chkN l0 != 0) = true := by rw [i_ne, decide_eq_false p0]; rfl
    simp only [f7, ruA, ruB, ruC, ruE, ruD, lenStr, Int.reduceBEq, Int.reduceBNe, nv1, nv2]
    refine Ev.callC c3 ?_
    simp only [ruA, ruB, ruC, ruE, ruD, lenStr, Int.reduceBEq, Int.reduceBNe, ld q1 g1 k3]
    refine Ev.callC c4 ?_
    simp only [ruA, ruB, ruC, ruE, ruD, lenStr, Int.reduceBEq, Int.reduceBNe, e1]
    exact Ev.pure _
  obtain ⟨H5, c5, k5'⟩ := check_ok ((s1.keep k04).mono (upA k04))
  have k5 := k4.trans (k5'.mono (upA k4))
  have k05 := k12.trans (k5.mono (upA k12))
  by_cases p1 : chkN l1 = 0
  case neg =>
    refine ⟨H5, Ev.enter (fun n => f7_eq rfl n _ _ _ _) ?_, k05⟩
    have e1 : (chkN l1 != 0) = true := by rw [i_ne, decide_eq_false p1]; rfl
    simp only [f7, ruA, ruB, ruC, ruE, ruD, lenStr, Int.reduceBEq, Int.reduceBNe, nv1, nv2]
    refine Ev.callC c3 ?_
    simp only [ruA, ruB, ruC, ruE, ruD, lenStr, Int.reduceBEq, Int.reduceBNe, ld q1 g1 k3]
    refine Ev.callC c4 ?_
    simp only [ruA, ruB, ruC, ruE, ruD, lenStr, Int.reduceBEq, Int.reduceBNe, p0, ld q2 g2 k4]
    refine Ev.callC c5 ?_
    simp only [ruA, ruB, ruC, ruE, ruD, lenStr, Int.reduceBEq, Int.reduceBNe, e1]
    exact Ev.pure _
  obtain ⟨a, rfl, ha, _⟩ := chk_tree z0 p0
  obtain ⟨b, rfl, hb, _⟩ := chk_tree z1 p1
  rw [Rx.flat_len] at s0 s1
  have w1 : IntKind.i64.wrap ((a.size : Int) + (b.size : Int)) = ((a.size + b.size : Nat) : Int) := by rw [← Int.natCast_add, wrap_i64 (by omega) (by omega)]
  have enter : ∀ r, Ev (fun n m => bnd (up (binB Tryd.prog .gtr 3 (.int .i64 ((a.size + b.size : Nat) : Int)) (.int .i64 200)) H5) fun x48 H38 => iff x48 (some (.bool true, H38)) (bnd (up (lenS vt) H38) fun x52 H42 => bnd (minV x52 (.int .i64 12) H42) fun x53 H44 => bnd (up (slcS 1 vt none (some x53) none) H44) fun x54 H46 =>
      bnd (ldA 1 (ptr H.n 0) H46) fun x56 H48 => bnd (ldA 1 (ptr H1.n 0) H48) fun x57 H50 => bnd (AX n 25 [(.int .i64 4), x56, x57] H50) fun x58 H52 => bnd (AX n 20 [x58, x54] H52) fun x60 H54 => bnd (extr 0 x60 H54) fun x61 H56 => bnd (extr 1 x60 H56) fun x62 H58 =>
      bnd (ldA 1 (ptr H.n 0) H58) fun x64 H60 => bnd (ldA 1 (ptr H1.n 0) H60) fun x65 H62 => bnd (AX n 25 [(.int .i64 3), x64, x65] H62) fun x66 H64 => bnd (AX n 20 [x66, x54] H64) fun x68 H66 => bnd (extr 0 x68 H66) fun x69 H68 => bnd (extr 1 x68 H68) fun x70 H70 =>
      bnd (ldA 1 (ptr H.n 0) H70) fun x72 H72 => bnd (AX n 26 [(.int .i64 5), x72] H72) fun x73 H74 => bnd (AX n 20 [x73, x54] H74) fun x75 H76 => bnd (extr 0 x75 H76) fun x76 H78 => bnd (extr 1 x75 H78) fun x77 H80 =>
      bnd (ldA 1 (ptr H.n 0) H80) fun x79 H82 => bnd (AX n 26 [(.int .i64 6), x79] H82) fun x80 H84 => bnd (AX n 20 [x80, x54] H84) fun x82 H86 => bnd (extr 0 x82 H86) fun x83 H88 => bnd (extr 1 x82 H88) fun x84 H90 =>
      bnd (ldA 1 (ptr H.n 0) H90) fun x86 H92 => bnd (AX n 20 [x86, x54] H92) fun x88 H94 => bnd (extr 0 x88 H94) fun x89 H96 => bnd (extr 1 x88 H96) fun x90 H98 =>
      bnd (ldA 1 (ptr H1.n 0) H98) fun x92 H100 => bnd (AX n 20 [x92, x54] H100) fun x94 H102 => bnd (extr 0 x94 H102) fun x95 H104 => bnd (extr 1 x94 H104) fun x96 H106 =>
      bnd (up (lenS x54) H106) fun x98 H108 => bnd (up (binB Tryd.prog .eql 3 x98 (.int .i64 0)) H108) fun x99 H110 =>
      f7_L0 real (AX n) n n x54 (ptr H.n 0) (ptr H1.n 0) x61 x62 x69 x70 x76 x77 x83 x84 x89 x90 x95 x96 (.bool false) x99 (.int .i64 0) H110)) r → Ev (fun n _ => AX n 7 [.agg #[v0], .agg #[v1], vt] H) r := fun r hr => by
    refine Ev.enter (fun n => f7_eq rfl n _ _ _ _) ?_
    simp only [f7, ruA, nv1, nv2]
    refine Ev.callC c3 ?_
    simp only [ruA, ruB, Bool.not_true, ld q1 g1 k3]
    refine Ev.callC c4 ?_
    simp only [ruA, ruB, ruC, ruD, Int.reduceBNe, p0, ld q2 g2 k4]
    refine Ev.callC c5 ?_
    simp only [ruA, ruB, ruC, ruD, Int.reduceBNe, p1, lc q1 g1 k5, lc q2 g2 k5, s0.lenS, s1.lenS, w1]
    simp only [ruC, ruA] at hr
    exact hr
  by_cases h200 : 200 < a.size + b.size
  · refine ⟨H5, enter _ ?_, k05⟩
    have e : (((a.size + b.size : Nat) : Int) > 200) = True := eq_true (by omega)
    simp only [ruA, ruB, ruC, ruE, ruD, lenStr, Int.reduceBEq, Int.reduceBNe, e]
    exact Ev.pure _
  have e200 : (((a.size + b.size : Nat) : Int) > 200) = False := eq_false (by omega)
  have ta : Tv H5 v0 a := (s0.keep k05).mono (upA k05)
  have tb : Tv H5 v1 b := (s1.keep k05).mono (upA k05)
  have ht5 := (ht.keep k05).mono (upA k05)
  obtain ⟨m, hm⟩ : ∃ m, min T.length 12 = m := ⟨_, rfl⟩
  obtain ⟨vp, sp, hp⟩ := sl_byt ht5 (m := m) (by omega)
  have hpl : ((U T).take m).length ≤ 12 := by rw [List.length_take]; omega
  have hpb : ∀ x ∈ (U T).take m, x < 256 := fun x hx => U_byte T x (List.mem_of_mem_take hx)
  obtain ⟨T', hT'⟩ : ∃ T', (U T).take m = T' := ⟨_, rfl⟩
  rw [hT'] at hp hpl hpb
  have hT1 : ¬ 8192 < T'.length := by omega
  obtain ⟨r1, B1, d1, t1, j1⟩ := join_ok (k := 4) (.inr rfl) ta tb (by omega)
  obtain ⟨B2, d2, j2'⟩ := takesR_ok (by rw [two_size]; omega) t1 ((hp.keep j1).mono (upA j1)) hpb (by omega)
  rw [if_neg hT1] at d2
  have j2 := j1.trans (j2'.mono (upA j1))
  obtain ⟨r3, B3, d3, t3, j3'⟩ := join_ok (k := 3) (.inl rfl) (ta.keep j2) (tb.keep j2) (by omega)
  have j3 := j2.trans (j3'.mono (upA j2))
  obtain ⟨B4, d4, j4'⟩ := takesR_ok (by rw [two_size]; omega) t3 ((hp.keep j3).mono (upA j3)) hpb (by omega)
  rw [if_neg hT1] at d4
  have j4 := j3.trans (j4'.mono (upA j3))
  obtain ⟨r5, B5, d5, t5, j5'⟩ := over_ok (k := 5) (.inl rfl) (ta.keep j4) (by omega)
  have j5 := j4.trans (j5'.mono (upA j4))
  obtain ⟨B6, d6, j6'⟩ := takesR_ok (by rw [many_size]; omega) t5 ((hp.keep j5).mono (upA j5)) hpb (by omega)
  rw [if_neg hT1] at d6
  have j6 := j5.trans (j6'.mono (upA j5))
  obtain ⟨r7, B7, d7, t7, j7'⟩ := over_ok (k := 6) (.inr rfl) (ta.keep j6) (by omega)
  have j7 := j6.trans (j7'.mono (upA j6))
  obtain ⟨B8, d8, j8'⟩ := takesR_ok (by rw [many_size]; omega) t7 ((hp.keep j7).mono (upA j7)) hpb (by omega)
  rw [if_neg hT1] at d8
  have j8 := j7.trans (j8'.mono (upA j7))
  obtain ⟨B9, d9, j9'⟩ := takesR_ok (t := a) (by omega) (ta.keep j8) ((hp.keep j8).mono (upA j8)) hpb (by omega)
  rw [if_neg hT1] at d9
  have j9 := j8.trans (j9'.mono (upA j8))
  obtain ⟨B10, d10, j10'⟩ := takesR_ok (t := b) (by omega) (tb.keep j9) ((hp.keep j9).mono (upA j9)) hpb (by omega)
  rw [if_neg hT1] at d10
  have j10 := j9.trans (j10'.mono (upA j9))
  have e99 : ((T'.length : Int) == 0) = (decide (T'.length = 0) || preK (manP a T') 0) := by
    rw [show preK (manP a T') 0 = false from rfl, Bool.or_false]
    exact k_eq' (a := T'.length) (k := 0)
  obtain ⟨G', x1, x2⟩ := parts_loop (G0 := H5) (q3 := H.n) (q4 := H1.n) (va := v0) (vb := v1) (vt := vp) (by omega) (by omega) hpl hpb (Nat.lt_of_lt_of_le q1 k5.1) ((k5.2 _ q1).trans g1) (Nat.lt_of_lt_of_le q2 k5.1) ((k5.2 _ q2).trans g2) ta tb hp (T'.length + 1) 0 B10 (by omega) j10
  refine ⟨G', enter _ ?_, k05.trans (x2.mono (upA k05))⟩
  have mv : ∀ G : Heap, minV (.int .i64 ((U T).length : Int)) (.int .i64 12) G = some (.int .i64 (m : Int), G) := fun G => by
    have := minV_nat (a := (U T).length) (b := 12) (H := G)
    rw [U_len, hm] at this
    rw [U_len]; exact this
  have l5 : ∀ {q : Nat} {x : Value} {A : Heap}, q < H2.n → H2.get q = some ⟨[x], 1, true⟩ → Keep (all H5) H5 A → ldA 1 (ptr q 0) A = some (.agg #[x], A) := fun hq hg kk => ld hq hg (k5.trans (kk.mono (upA k5)))
  simp only [ruA, ruB, ruC, ruE, ruD, lenStr, Int.reduceBEq, Int.reduceBNe, e200, ht.lenS, mv, sp, l5 q1 g1 (Keep.refl _ _), l5 q2 g2 (Keep.refl _ _)]
  refine Ev.callC d1 ?_
  refine Ev.callC d2 ?_
  simp only [ruA, ruB, ruC, ruE, ruD, lenStr, Int.reduceBEq, Int.reduceBNe, l5 q1 g1 j2, l5 q2 g2 j2]
  refine Ev.callC d3 ?_
  refine Ev.callC d4 ?_
  simp only [ruA, ruB, ruC, ruE, ruD, lenStr, Int.reduceBEq, Int.reduceBNe, l5 q1 g1 j4]
  refine Ev.callC d5 ?_
  refine Ev.callC d6 ?_
  simp only [ruA, ruB, ruC, ruE, ruD, lenStr, Int.reduceBEq, Int.reduceBNe, l5 q1 g1 j6]
  refine Ev.callC d7 ?_
  refine Ev.callC d8 ?_
  simp only [ruA, ruB, ruC, ruE, ruD, lenStr, Int.reduceBEq, Int.reduceBNe, l5 q1 g1 j8]
  refine Ev.callC d9 ?_
  simp only [ruA, ruB, ruC, ruE, ruD, lenStr, Int.reduceBEq, Int.reduceBNe, l5 q2 g2 j9]
  refine Ev.callC d10 ?_
  simp only [ruA, ruB, ruC, ruE, ruD, lenStr, Int.reduceBEq, Int.reduceBNe, hp.lenS, e99]
  exact Ev.loop x1
end Go.Eng
