/- RegexOrder. -/
import Derived.Test.YtimhmmeoliagjaaDoorZA
set_option linter.unusedVariables false
set_option linter.unusedSimpArgs false
set_option linter.unusedSectionVars false
set_option maxRecDepth 100000
namespace Go.Eng
open Go Go.Proofs

theorem b_boo {a b : Bool} : binB Tryd.prog .eql 4 (.bool a) (.bool b) = some (.bool (a == b)) := by cases a <;> cases b <;> kernel_rfl
theorem tk_iff {t : Rx} {T : List Nat} (ht : t.size ≤ 1000000) : takesN (t.flat 0) T = true ↔ Mt T t 0 T.length := takesN_iff ht
theorem tk_eq {s t : Rx} {T : List Nat} (hs : s.size ≤ 1000000) (ht : t.size ≤ 1000000) (h : Mt T s 0 T.length ↔ Mt T t 0 T.length) : takesN (s.flat 0) T = takesN (t.flat 0) T := by
  rw [Bool.eq_iff_iff, tk_iff hs, tk_iff ht]; exact h
theorem alt_iff {T : List Nat} {x y : Rx} {i j : Nat} : Mt T (.alt x y) i j ↔ Mt T x i j ∨ Mt T y i j :=
  ⟨fun h => by cases h with | altL h => exact .inl h | altR h => exact .inr h, fun h => h.elim .altL .altR⟩
theorem seq_iff {T : List Nat} {x y : Rx} {i j : Nat} : Mt T (.seq x y) i j ↔ ∃ k, Mt T x i k ∧ Mt T y k j :=
  ⟨fun h => by cases h with | seq h1 h2 => exact ⟨_, h1, h2⟩, fun ⟨_, h1, h2⟩ => .seq h1 h2⟩
theorem alt_order {T : List Nat} {a b c : Rx} {i j : Nat} : Mt T (.alt (.alt a b) c) i j ↔ Mt T (.alt c (.alt b a)) i j := by
  simp only [alt_iff]
  constructor
  · rintro ((h | h) | h)
    · exact .inr (.inr h)
    · exact .inr (.inl h)
    · exact .inl h
  · rintro (h | h | h)
    · exact .inr h
    · exact .inl (.inr h)
    · exact .inl (.inl h)
theorem seq_order {T : List Nat} {a b c : Rx} {i j : Nat} : Mt T (.seq (.seq a b) c) i j ↔ Mt T (.seq a (.seq b c)) i j := by
  simp only [seq_iff]
  constructor
  · rintro ⟨k, ⟨m, h1, h2⟩, h3⟩; exact ⟨m, h1, k, h2, h3⟩
  · rintro ⟨m, h1, k, h2, h3⟩; exact ⟨k, ⟨m, h1, h2⟩, h3⟩
section
variable {q : Nat} {cs : List Value}
theorem ord_round {H : Heap} {i : Nat} {x1 vi : Value} {li : List Nd} (hi : i < 3) (hq : q < H.n) (gq : H.get q = some ⟨cs, 1, true⟩) (h3 : cs.length = 3) (hc : cs[i]? = some vi) (hs : Sl (all H) H 7 vi li.length (NDS li)) :
    ∃ H1, Keep (all H) H H1 ∧ (¬ (chkN li = 0 ∧ li.length ≤ 60) → Ev (fun n m => f9_L0 real (AX n) n m x1 (ptr q 0) (.int .i64 (i : Int)) H) (.bool true, H1)) ∧
      ((chkN li = 0 ∧ li.length ≤ 60) → ∀ r, Ev (fun n m => f9_L0 real (AX n) n m x1 (ptr q 0) (.int .i64 ((i + 1 : Nat) : Int)) H1) r → Ev (fun n m => f9_L0 real (AX n) n m x1 (ptr q 0) (.int .i64 (i : Int)) H) r) := by
  obtain ⟨H1, c1, k1⟩ := check_ok hs
  have e : ((i : Int) < 3) = True := eq_true (by omega)
  have ia : iAddrA 3 1 (ptr q 0) (.int .i64 (i : Int)) = some (ptr q i) := iA hi
  have la : ldA 1 (ptr q i) H = some (.agg #[vi], H) := by
    have := Box.ldA (R := all H) (b := q) (k := i) (n := 1) (cs := cs) ⟨hq, _, _, gq⟩ (by omega)
    rw [this]
    have hcut : cut cs i 1 = [vi] := by
      unfold cut
      have hlt := (List.getElem?_eq_some_iff.1 hc).1
      rw [List.drop_eq_getElem_cons hlt, List.take_succ_cons, List.take_zero]
      have := (List.getElem?_eq_some_iff.1 hc).2
      rw [this]
    rw [hcut]
  have lc : ldC (ptr q i) H1 = some (vi, H1) := ldG (by rw [k1.2 _ hq]; exact gq) hc
  refine ⟨H1, k1, fun hn => ?_, fun hp r hr => ?_⟩
  · refine Ev.step (fun n m => f9_L0.eq_2 _ _ _ _ _ _ _ m) ?_
    simp only [ruA, ruB, ruC, ruE, ruD, lenStr, Int.reduceBEq, Int.reduceBNe, e, ia, la]
    refine Ev.callC c1 ?_
    by_cases h0 : chkN li = 0
    · have h60 : 60 < li.length := by
        rcases Nat.lt_or_ge 60 li.length with h | h
        · exact h
        · exact absurd ⟨h0, h⟩ hn
      have e2 : ((li.length : Int) > 60) = True := eq_true (by omega)
      simp only [ruA, ruB, ruC, ruE, ruD, lenStr, Int.reduceBEq, Int.reduceBNe, h0, ia, Nat.add_zero, lc, hs.lenS, e2]
      exact Ev.pure _
    · have e1 : (chkN li != 0) = true := by rw [i_ne, decide_eq_false h0]; rfl
      simp only [ruA, ruB, ruC, ruE, ruD, lenStr, Int.reduceBEq, Int.reduceBNe, e1]
      exact Ev.pure _
  · obtain ⟨h0, h60⟩ := hp
    have e2 : ((li.length : Int) > 60) = False := eq_false (by omega)
    refine Ev.step (fun n m => f9_L0.eq_2 _ _ _ _ _ _ _ m) ?_
    simp only [ruA, ruB, ruC, ruE, ruD, lenStr, Int.reduceBEq, Int.reduceBNe, e, ia, la]
    refine Ev.callC c1 ?_
    simp only [ruA, ruB, ruC, ruE, ruD, lenStr, Int.reduceBEq, Int.reduceBNe, h0, ia, Nat.add_zero, lc, hs.lenS, e2, idx_up (show i < 9223372036854775807 by omega)]
    exact hr
end
theorem sl_byt {H : Heap} {v : Value} {T : List UInt8} (h : Sl (all H) H 1 v (U T).length (B (U T))) {m : Nat} (hm : m ≤ T.length) : ∃ v', slcS 1 v none (some (.int .i64 (m : Int))) none = some v' ∧ Sl (all H) H 1 v' ((U T).take m).length (B ((U T).take m)) := By.upto h (by rw [U_len]; exact hm)
theorem box_at {H : Heap} {q i : Nat} {v : Value} {cs : List Value} (hq : q < H.n) (gq : H.get q = some ⟨cs, 1, true⟩) (hc : cs[i]? = some v) : ldA 1 (ptr q i) H = some (.agg #[v], H) := by
  have hlt := (List.getElem?_eq_some_iff.1 hc).1
  have := Box.ldA (R := all H) (b := q) (k := i) (n := 1) (cs := cs) ⟨hq, _, _, gq⟩ (by omega)
  rw [this]
  have hcut : cut cs i 1 = [v] := by
    unfold cut
    rw [List.drop_eq_getElem_cons hlt, List.take_succ_cons, List.take_zero, (List.getElem?_eq_some_iff.1 hc).2]
  rw [hcut]
theorem order_ok {H : Heap} (hG : G9 H) {l0 l1 l2 : List Nd} {v0 v1 v2 vt : Value} {T : List UInt8} (s0 : Sl (all H) H 7 v0 l0.length (NDS l0)) (s1 : Sl (all H) H 7 v1 l1.length (NDS l1)) (s2 : Sl (all H) H 7 v2 l2.length (NDS l2))
    (z0 : ∀ n ∈ l0, n.set < 2 ^ 256) (z1 : ∀ n ∈ l1, n.set < 2 ^ 256) (z2 : ∀ n ∈ l2, n.set < 2 ^ 256) (ht : Sl (all H) H 1 vt (U T).length (B (U T))) :
    ∃ H', ClX 9 [.agg #[v0, v1, v2], vt] H (.bool true) H' ∧ Keep (all H) H H' := by
  obtain ⟨_, o0⟩ := slc_cells s0
  obtain ⟨_, o1⟩ := slc_cells s1
  obtain ⟨_, o2⟩ := slc_cells s2
  obtain ⟨H1, hH1⟩ : ∃ H1, H.push ⟨[v0, v1, v2], 1, true⟩ = H1 := ⟨_, rfl⟩
  have n1 : H1.n = H.n + 1 := by rw [← hH1]; rfl
  have k1 : Keep (all H) H H1 := by rw [← hH1]; exact push_keep
  have g1 : H1.get H.n = some ⟨[v0, v1, v2], 1, true⟩ := by rw [← hH1]; exact push_self
  have nv : newV (Value.cells (.agg #[v0, v1, v2])).toList H = some (ptr H.n 0, H1) := by rw [← hH1]; exact newA (cs := [v0, v1, v2]) (by simp [o0, o1, o2])
  obtain ⟨H2, c2, k2'⟩ := works_ok (hG.keep k1)
  have k2 := k1.trans (k2'.mono (upA k1))
  have hq1 : H.n < H1.n := by omega
  have q2 : H.n < H2.n := Nat.lt_of_lt_of_le hq1 k2'.1
  have g2 : H2.get H.n = some ⟨[v0, v1, v2], 1, true⟩ := by rw [k2'.2 _ hq1]; exact g1
  have enter : ∀ r, Ev (fun n m => f9_L0 real (AX n) n m vt (ptr H.n 0) (.int .i64 0) H2) r → Ev (fun n _ => AX n 9 [.agg #[v0, v1, v2], vt] H) r := fun r hr => by
    refine Ev.enter (fun n => f9_eq rfl n _ _ _) ?_
    simp only [f9, ruA, ruB, ruC, ruE, ruD, lenStr, Int.reduceBEq, Int.reduceBNe, nv]
    refine Ev.callC c2 ?_
    (try simp only [ruA, ruB, ruC, ruE, ruD, lenStr, Int.reduceBEq, Int.reduceBNe])
    exact Ev.loop hr
  obtain ⟨H3, k3, x3, y3⟩ := ord_round (x1 := vt) (i := 0) (by omega) q2 g2 rfl rfl ((s0.keep k2).mono (upA k2))
  have k23 := k2.trans (k3.mono (upA k2))
  by_cases p0 : chkN l0 = 0 ∧ l0.length ≤ 60
  case neg => exact ⟨H3, enter _ (x3 p0), k23⟩
  have q3 : H.n < H3.n := Nat.lt_of_lt_of_le q2 k3.1
  have g3 : H3.get H.n = some ⟨[v0, v1, v2], 1, true⟩ := (k3.2 _ q2).trans g2
  obtain ⟨H4, k4, x4, y4⟩ := ord_round (x1 := vt) (i := 1) (by omega) q3 g3 rfl rfl ((s1.keep k23).mono (upA k23))
  have k24 := k23.trans (k4.mono (upA k23))
  by_cases p1 : chkN l1 = 0 ∧ l1.length ≤ 60
  case neg => exact ⟨H4, enter _ (y3 p0 _ (x4 p1)), k24⟩
  have q4 : H.n < H4.n := Nat.lt_of_lt_of_le q3 k4.1
  have g4 : H4.get H.n = some ⟨[v0, v1, v2], 1, true⟩ := (k4.2 _ q3).trans g3
  obtain ⟨H5, k5, x5, y5⟩ := ord_round (x1 := vt) (i := 2) (by omega) q4 g4 rfl rfl ((s2.keep k24).mono (upA k24))
  have k25 := k24.trans (k5.mono (upA k24))
  by_cases p2 : chkN l2 = 0 ∧ l2.length ≤ 60
  case neg => exact ⟨H5, enter _ (y3 p0 _ (y4 p1 _ (x5 p2))), k25⟩
  have q5 : H.n < H5.n := Nat.lt_of_lt_of_le q4 k5.1
  have g5 : H5.get H.n = some ⟨[v0, v1, v2], 1, true⟩ := (k5.2 _ q4).trans g4
  obtain ⟨a, rfl, ha, _⟩ := chk_tree z0 p0.1
  obtain ⟨b, rfl, hb, _⟩ := chk_tree z1 p1.1
  obtain ⟨c, rfl, hc, _⟩ := chk_tree z2 p2.1
  rw [Rx.flat_len] at p0 p1 p2 s0 s1 s2
  obtain ⟨p0a, p0b⟩ := p0
  obtain ⟨p1a, p1b⟩ := p1
  obtain ⟨p2a, p2b⟩ := p2
  have ta : Tv H5 v0 a := (s0.keep k25).mono (upA k25)
  have tb : Tv H5 v1 b := (s1.keep k25).mono (upA k25)
  have tc : Tv H5 v2 c := (s2.keep k25).mono (upA k25)
  have ht5 := (ht.keep k25).mono (upA k25)
  obtain ⟨m, hm⟩ : ∃ m, min T.length 20 = m := ⟨_, rfl⟩
  obtain ⟨vp, sp, hp⟩ := sl_byt ht5 (m := m) (by omega)
  have hpl : ((U T).take m).length ≤ 20 := by rw [List.length_take]; omega
  have hpb : ∀ x ∈ (U T).take m, x < 256 := fun x hx => U_byte T x (List.mem_of_mem_take hx)
  obtain ⟨T', hT'⟩ : ∃ T', (U T).take m = T' := ⟨_, rfl⟩
  rw [hT'] at hp hpl hpb
  obtain ⟨A1, hA1⟩ : ∃ A1, H5.push ⟨[.slice none 0 0], 1, true⟩ = A1 := ⟨_, rfl⟩
  obtain ⟨A2, hA2⟩ : ∃ A2, A1.push ⟨[.slice none 0 0], 1, true⟩ = A2 := ⟨_, rfl⟩
  obtain ⟨A3, hA3⟩ : ∃ A3, A2.push ⟨[.slice none 0 0], 1, true⟩ = A3 := ⟨_, rfl⟩
  obtain ⟨A4, hA4⟩ : ∃ A4, A3.upd H5.n (some ⟨[v0], 1, true⟩) = A4 := ⟨_, rfl⟩
  obtain ⟨A5, hA5⟩ : ∃ A5, A4.upd A1.n (some ⟨[v1], 1, true⟩) = A5 := ⟨_, rfl⟩
  obtain ⟨A6, hA6⟩ : ∃ A6, A5.upd A2.n (some ⟨[v2], 1, true⟩) = A6 := ⟨_, rfl⟩
  have m1 : A1.n = H5.n + 1 := by rw [← hA1]; rfl
  have m2 : A2.n = H5.n + 2 := by rw [← hA2, push_n, m1]
  have m3 : A3.n = H5.n + 3 := by rw [← hA3, push_n, m2]
  have m4 : A4.n = H5.n + 3 := by rw [← hA4, upd_n, m3]
  have m5 : A5.n = H5.n + 3 := by rw [← hA5, upd_n, m4]
  have m6 : A6.n = H5.n + 3 := by rw [← hA6, upd_n, m5]
  have w1 : newV [(.slice none 0 0)] H5 = some (ptr H5.n 0, A1) := by rw [nilbox, hA1]
  have w2 : newV [(.slice none 0 0)] A1 = some (ptr A1.n 0, A2) := by rw [nilbox, hA2]
  have w3 : newV [(.slice none 0 0)] A2 = some (ptr A2.n 0, A3) := by rw [nilbox, hA3]
  have b1 : A3.get H5.n = some ⟨[.slice none 0 0], 1, true⟩ := by rw [← hA3, push_lt (by omega), ← hA2, push_lt (by omega), ← hA1]; exact push_self
  have b2 : A3.get A1.n = some ⟨[.slice none 0 0], 1, true⟩ := by rw [← hA3, push_lt (by omega), ← hA2]; exact push_self
  have b3 : A3.get A2.n = some ⟨[.slice none 0 0], 1, true⟩ := by rw [← hA3]; exact push_self
  have u1 : stV 1 (ptr H5.n 0) (.agg #[v0]) A3 = some (undef, A4) := by rw [← hA4]; exact stG (ds := [v0]) b1 rfl rfl (by simp [o0])
  have u2 : stV 1 (ptr A1.n 0) (.agg #[v1]) A4 = some (undef, A5) := by rw [← hA5]; exact stG (ds := [v1]) (by rw [← hA4, upd_ne (by omega)]; exact b2) rfl rfl (by simp [o1])
  have u3 : stV 1 (ptr A2.n 0) (.agg #[v2]) A5 = some (undef, A6) := by rw [← hA6]; exact stG (ds := [v2]) (by rw [← hA5, upd_ne (by omega), ← hA4, upd_ne (by omega)]; exact b3) rfl rfl (by simp [o2])
  have sb1 : ∀ k, sameBlk A3 A4 (blkOf (ptr H.n k)) = true := fun k => sameBlk_of fun x hx => by
    simp only [blkOf, ptr, Option.some.injEq] at hx
    subst hx
    rw [← hA4, upd_ne (by omega)]
  have sb2 : ∀ k, sameBlk A4 A5 (blkOf (ptr H.n k)) = true := fun k => sameBlk_of fun x hx => by
    simp only [blkOf, ptr, Option.some.injEq] at hx
    subst hx
    rw [← hA5, upd_ne (by omega)]
  have kA3 : Keep (all H5) H5 A3 := by
    rw [← hA3, ← hA2, ← hA1]
    exact (push_keep.trans (push_keep.mono (upA push_keep))).trans (push_keep.mono (upA (push_keep.trans (push_keep.mono (upA push_keep)))))
  have kA4 : Keep (all H5) H5 A4 := kA3.trans (by rw [← hA4]; exact Keep.upd fun hb => by have hb' : H5.n < H5.n := hb; omega)
  have kA5 : Keep (all H5) H5 A5 := kA4.trans (by rw [← hA5]; exact Keep.upd fun hb => by have hb' : A1.n < H5.n := hb; omega)
  have kA6 : Keep (all H5) H5 A6 := kA5.trans (by rw [← hA6]; exact Keep.upd fun hb => by have hb' : A2.n < H5.n := hb; omega)
  have e1 : A6.get H5.n = some ⟨[v0], 1, true⟩ := by rw [← hA6, upd_ne (by omega), ← hA5, upd_ne (by omega), ← hA4]; exact upd_self
  have e2 : A6.get A1.n = some ⟨[v1], 1, true⟩ := by rw [← hA6, upd_ne (by omega), ← hA5]; exact upd_self
  have e3 : A6.get A2.n = some ⟨[v2], 1, true⟩ := by rw [← hA6]; exact upd_self
  have f1 : H5.n < A6.n := by omega
  have f2 : A1.n < A6.n := by omega
  have f3 : A2.n < A6.n := by omega
  have ld : ∀ {q : Nat} {x : Value} {G : Heap}, q < A6.n → A6.get q = some ⟨[x], 1, true⟩ → Keep (all A6) A6 G → ldA 1 (ptr q 0) G = some (.agg #[x], G) := fun hq hg kk => ldAG (cs := [_]) (by rw [kk.2 _ hq]; exact hg) rfl
  have ta6 := ta.keep kA6
  have tb6 := tb.keep kA6
  have tc6 := tc.keep kA6
  have hp6 := (hp.keep kA6).mono (upA kA6)
  have kH6 : Keep (all H) H A6 := k25.trans (kA6.mono (upA k25))
  obtain ⟨r1, B1, d1, t1, j1⟩ := join_ok (k := 4) (.inr rfl) ta6 tb6 (by omega)
  obtain ⟨r2, B2, d2, t2, j2'⟩ := join_ok (k := 4) (.inr rfl) t1 (tc6.keep j1) (by rw [two_size]; omega)
  have j2 := j1.trans (j2'.mono (upA j1))
  have hT1 : ¬ 8192 < T'.length := by omega
  obtain ⟨B3, d3, j3'⟩ := takesR_ok (by rw [two_size, two_size]; omega) t2 ((hp6.keep j2).mono (upA j2)) hpb (by omega)
  rw [if_neg hT1] at d3
  have j3 := j2.trans (j3'.mono (upA j2))
  obtain ⟨r4, B4, d4, t4, j4'⟩ := join_ok (k := 4) (.inr rfl) (tb6.keep j3) (ta6.keep j3) (by omega)
  have j4 := j3.trans (j4'.mono (upA j3))
  obtain ⟨r5, B5, d5, t5, j5'⟩ := join_ok (k := 4) (.inr rfl) (tc6.keep j4) t4 (by rw [two_size]; omega)
  have j5 := j4.trans (j5'.mono (upA j4))
  obtain ⟨B6, d6, j6'⟩ := takesR_ok (by rw [two_size, two_size]; omega) t5 ((hp6.keep j5).mono (upA j5)) hpb (by omega)
  rw [if_neg hT1] at d6
  have j6 := j5.trans (j6'.mono (upA j5))
  obtain ⟨r7, B7, d7, t7, j7'⟩ := join_ok (k := 3) (.inl rfl) (ta6.keep j6) (tb6.keep j6) (by omega)
  have j7 := j6.trans (j7'.mono (upA j6))
  obtain ⟨r8, B8, d8, t8, j8'⟩ := join_ok (k := 3) (.inl rfl) t7 (tc6.keep j7) (by rw [two_size]; omega)
  have j8 := j7.trans (j8'.mono (upA j7))
  obtain ⟨B9, d9, j9'⟩ := takesR_ok (by rw [two_size, two_size]; omega) t8 ((hp6.keep j8).mono (upA j8)) hpb (by omega)
  rw [if_neg hT1] at d9
  have j9 := j8.trans (j9'.mono (upA j8))
  obtain ⟨r10, B10, d10, t10, j10'⟩ := join_ok (k := 3) (.inl rfl) (tb6.keep j9) (tc6.keep j9) (by omega)
  have j10 := j9.trans (j10'.mono (upA j9))
  obtain ⟨r11, B11, d11, t11, j11'⟩ := join_ok (k := 3) (.inl rfl) (ta6.keep j10) t10 (by rw [two_size]; omega)
  have j11 := j10.trans (j11'.mono (upA j10))
  obtain ⟨B12, d12, j12'⟩ := takesR_ok (by rw [two_size, two_size]; omega) t11 ((hp6.keep j11).mono (upA j11)) hpb (by omega)
  rw [if_neg hT1] at d12
  have j12 := j11.trans (j12'.mono (upA j11))
  have E1 : takesN ((two 4 (two 4 a b) c).flat 0) T' = takesN ((two 4 c (two 4 b a)).flat 0) T' := tk_eq (by rw [two_size, two_size]; omega) (by rw [two_size, two_size]; omega) alt_order
  have E2 : takesN ((two 3 (two 3 a b) c).flat 0) T' = takesN ((two 3 a (two 3 b c)).flat 0) T' := tk_eq (by rw [two_size, two_size]; omega) (by rw [two_size, two_size]; omega) seq_order
  refine ⟨B12, enter _ (y3 ⟨p0a, by rw [Rx.flat_len]; exact p0b⟩ _ (y4 ⟨p1a, by rw [Rx.flat_len]; exact p1b⟩ _ (y5 ⟨p2a, by rw [Rx.flat_len]; exact p2b⟩ _ ?_))), kH6.trans (j12.mono (upA kH6))⟩
  refine Ev.step (fun n m => f9_L0.eq_2 _ _ _ _ _ _ _ m) ?_
  have ee : (((2 + 1 : Nat) : Int) < 3) = False := by simp
  have mv : ∀ G : Heap, minV (.int .i64 ((U T).length : Int)) (.int .i64 20) G = some (.int .i64 (m : Int), G) := fun G => by
    have := minV_nat (a := (U T).length) (b := 20) (H := G)
    rw [U_len, hm] at this
    rw [U_len]; exact this
  have i0 : iAddrA 3 1 (ptr H.n 0) (.int .i64 0) = some (ptr H.n 0) := iA (i := 0) (by omega)
  have i1 : iAddrA 3 1 (ptr H.n 0) (.int .i64 1) = some (ptr H.n 1) := iA (i := 1) (by omega)
  have i2 : iAddrA 3 1 (ptr H.n 0) (.int .i64 2) = some (ptr H.n 2) := iA (i := 2) (by omega)
  simp only [ruA, ruB, ruC, ruE, ruD, lenStr, Int.reduceBEq, Int.reduceBNe, ee, ht.lenS, mv, sp, i0, i1, i2, box_at q5 g5 (i := 0) rfl, box_at q5 g5 (i := 1) rfl, box_at q5 g5 (i := 2) rfl, w1, w2, w3, u1, u2, u3, sb1, sb2, Bool.and_true, ld f1 e1 (Keep.refl _ _), ld f2 e2 (Keep.refl _ _)]
  refine Ev.callC d1 ?_
  simp only [ruA, ruB, ruC, ruE, ruD, lenStr, Int.reduceBEq, Int.reduceBNe, blk_keep f3 j1, Bool.and_true, ld f3 e3 j1]
  refine Ev.callC d2 ?_
  (try simp only [ruA, ruB, ruC, ruE, ruD, lenStr, Int.reduceBEq, Int.reduceBNe])
  refine Ev.callC d3 ?_
  simp only [ruA, ruB, ruC, ruE, ruD, lenStr, Int.reduceBEq, Int.reduceBNe, ld f1 e1 j3, ld f2 e2 j3, ld f3 e3 j3]
  refine Ev.callC d4 ?_
  simp only [ruA, ruB, ruC, ruE, ruD, lenStr, Int.reduceBEq, Int.reduceBNe, blk_keep (Nat.lt_of_lt_of_le f3 j3.1) j4', Bool.and_true]
  refine Ev.callC d5 ?_
  (try simp only [ruA, ruB, ruC, ruE, ruD, lenStr, Int.reduceBEq, Int.reduceBNe])
  refine Ev.callC d6 ?_
  simp only [ruA, ruB, ruC, ruE, ruD, lenStr, Int.reduceBEq, Int.reduceBNe, ld f1 e1 j6, ld f2 e2 j6]
  refine Ev.callC d7 ?_
  simp only [ruA, ruB, ruC, ruE, ruD, lenStr, Int.reduceBEq, Int.reduceBNe, blk_keep (Nat.lt_of_lt_of_le f3 j6.1) j7', Bool.and_true, ld f3 e3 j7]
  refine Ev.callC d8 ?_
  (try simp only [ruA, ruB, ruC, ruE, ruD, lenStr, Int.reduceBEq, Int.reduceBNe])
  refine Ev.callC d9 ?_
  simp only [ruA, ruB, ruC, ruE, ruD, lenStr, Int.reduceBEq, Int.reduceBNe, ld f1 e1 j9, ld f2 e2 j9, ld f3 e3 j9]
  refine Ev.callC d10 ?_
  simp only [ruA, ruB, ruC, ruE, ruD, lenStr, Int.reduceBEq, Int.reduceBNe, blk_keep (Nat.lt_of_lt_of_le f1 j9.1) j10', Bool.and_true]
  refine Ev.callC d11 ?_
  (try simp only [ruA, ruB, ruC, ruE, ruD, lenStr, Int.reduceBEq, Int.reduceBNe])
  refine Ev.callC d12 ?_
  simp only [ruA, ruB, ruC, ruE, ruD, lenStr, Int.reduceBEq, Int.reduceBNe, b_boo, E1, E2, beq_self_eq_true]
  exact Ev.pure _
end Go.Eng
