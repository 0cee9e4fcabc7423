/- The law GramJoin. -/
import Derived.Test.YtmfbebfpeimflaaDoorGFF
set_option linter.unusedVariables false
set_option linter.unusedSimpArgs false
set_option linter.unusedSectionVars false
set_option maxRecDepth 100000
namespace Go.Eng
open Go Go.Proofs

theorem minV_nat {a b : Nat} {H : Heap} : minV (.int .i64 (a : Int)) (.int .i64 (b : Int)) H = some (.int .i64 ((min a b : Nat) : Int), H) := by
  have e : (if (b : Int) < (a : Int) then (b : Int) else (a : Int)) = ((min a b : Nat) : Int) := by
    split <;> omega
  simp only [minV, if_true, e]
theorem fsm_of {f : Fl} (h : Fk f) (hl : flen f ≤ 100000) : Fsm f := by
  unfold flen at hl
  exact ⟨by omega, by omega, by omega, by omega, fun x hx => by have := h.2.1 x hx; omega, fun x hx => ⟨by have := (h.2.2 x hx).1; omega, fun a ha => by have := (h.2.2 x hx).2 a ha; omega⟩⟩
theorem fk_join {f g : Fl} (hf : Fk f) (hg : Fk g) : Fk (joinN f g) := by
  refine ⟨fun x hx => ?_, fun x hx => ?_, fun x hx => ?_⟩ <;> simp only [joinN, List.mem_append] at hx <;> rcases hx with hx | hx
  · exact hf.1 x hx
  · exact hg.1 x hx
  · exact hf.2.1 x hx
  · exact hg.2.1 x hx
  · exact hf.2.2 x hx
  · exact hg.2.2 x hx
theorem flen_join (f g : Fl) : flen (joinN f g) = flen f + flen g := by simp [flen, joinN]; omega
theorem gramJoin_ok {H : Heap} {a0 b0 : List UInt8} {v0 w0 : Value} (hL : Lg H) (ha0 : SlU (all H) H a0 v0) (hb0 : SlU (all H) H b0 w0) : ∃ H', Cl 4 [v0, w0] H (.bool true) H' ∧ Keep (all H) H H' := by
  have hm : mostBytes = 140737488355328 := rfl
  have e1 : minV (.int .i64 (a0.length : Int)) (.int .i64 4000) H = some (.int .i64 ((min a0.length 4000 : Nat) : Int), H) := minV_nat (a := a0.length) (b := 4000)
  have e2 : minV (.int .i64 (b0.length : Int)) (.int .i64 4000) H = some (.int .i64 ((min b0.length 4000 : Nat) : Int), H) := minV_nat (a := b0.length) (b := 4000)
  obtain ⟨v, t1, ha⟩ := SlU.take ha0 (i := min a0.length 4000) (by omega)
  obtain ⟨w, t2, hb⟩ := SlU.take hb0 (i := min b0.length 4000) (by omega)
  have la : (a0.take (min a0.length 4000)).length ≤ 4000 := by simp only [List.length_take]; omega
  have lb : (b0.take (min b0.length 4000)).length ≤ 4000 := by simp only [List.length_take]; omega
  have eA := ha0.len
  have eB := hb0.len
  generalize a0.take (min a0.length 4000) = a at *
  generalize b0.take (min b0.length 4000) = b at *
  obtain ⟨cs, H2, b1, b2, b3⟩ := parse_ok hL ha (by omega)
  have k3 : Keep (all H2) H2 (H2.push ⟨cs, 1, true⟩) := push_keep
  have s3 := boxF b3 (H' := H2)
  have g3 : (H2.push ⟨cs, 1, true⟩).get H2.n = some ⟨cs, 1, true⟩ := push_self
  have n3 : (H2.push ⟨cs, 1, true⟩).n = H2.n + 1 := push_n
  have r3 := Rp.up b3 k3
  have K3 := b2.tr k3
  generalize hH3 : H2.push ⟨cs, 1, true⟩ = H3 at *
  obtain ⟨ds, H4, c1, c2, c3⟩ := parse_ok (Box.up hL K3) (hb.up K3) (by omega)
  have k5 : Keep (all H4) H4 (H4.push ⟨ds, 1, true⟩) := push_keep
  have s5 := boxF c3 (H' := H4)
  have g5 : (H4.push ⟨ds, 1, true⟩).get H4.n = some ⟨ds, 1, true⟩ := push_self
  have n5 : (H4.push ⟨ds, 1, true⟩).n = H4.n + 1 := push_n
  have r5 := Rp.up c3 k5
  have K35 := c2.tr k5
  have r3' := Rp.up r3 K35
  have g3' : (H4.push ⟨ds, 1, true⟩).get H2.n = some ⟨cs, 1, true⟩ := by rw [K35.2 _ (by show H2.n < H3.n; omega)]; exact g3
  have K5 := K3.tr K35
  have n4 : H3.n ≤ H4.n := c2.1
  generalize hH5 : H4.push ⟨ds, 1, true⟩ = H5 at *
  -- refused at once
  have out : (((gparse a).2.2 != 0) || ((gparse b).2.2 != 0)) = true → ∃ H', Cl 4 [v0, w0] H (.bool true) H' ∧ Keep (all H) H H' := by
    intro hbad
    obtain ⟨H6, f1, f2⟩ := awake_ok (Box.up hL K5)
    refine ⟨H6, ?_, K5.tr f2⟩
    refine Ev.enter (fun n => f4_eq rfl n _ _ _) ?_
    simp only [f4, ruA, ruB, ruC, ruE, ruD, lenStr, Int.reduceBEq, Int.reduceBNe, eA, eB, e1, e2, t1, t2]
    refine Ev.callC b1 ?_
    simp only [ruA, ruB, ruC, ruE, ruD, lenStr, Int.reduceBEq, Int.reduceBNe, newF, s3, hH3]
    refine Ev.callC c1 ?_
    cases hx : ((gparse a).2.2 != 0) with
    | true =>
      simp only [ruA, ruB, ruC, ruE, ruD, lenStr, Int.reduceBEq, Int.reduceBNe, newF, s5, hH5, hx]
      refine Ev.callC f1 ?_
      exact Ev.pure _
    | false =>
      rw [hx, Bool.false_or] at hbad
      simp only [ruA, ruB, ruC, ruE, ruD, lenStr, Int.reduceBEq, Int.reduceBNe, newF, s5, hH5, hx, hbad]
      refine Ev.callC f1 ?_
      exact Ev.pure _
  by_cases ga : (gparse a).2.2 = 0
  case neg => exact out (by simp [ga])
  by_cases gb : (gparse b).2.2 = 0
  case neg => exact out (by simp [gb])
  have ha0' : ((gparse a).2.2 != 0) = false := by rw [ga]; rfl
  have hb0' : ((gparse b).2.2 != 0) = false := by rw [gb]; rfl
  obtain ⟨j1, j2⟩ := join_law (a := a) (b := b) (by omega) ga gb
  -- the bytes of both
  obtain ⟨x, H6, d1, d2, d3⟩ := copy_ok (ha.up K5) (by omega)
  have d2' : Acc (all H5) H6 1 x a.length (B (U a)) := d2
  obtain ⟨x', H7, u1, u2, u3⟩ := byte_app (x := 10) d2' ((Rb.all H5).mono d3.1) (by omega)
  have u2' : Acc (all H5) H7 1 x' (a.length + 1) (B (U a ++ [10])) := u2
  have hb7 : SlU (all H5) H7 b w := Sl.keep (hb.up K5) (d3.trans u3)
  obtain ⟨x'', H8, w1, w2, w3⟩ := u2'.app (by_ := 1) ((Rb.all H5).mono (Nat.le_trans d3.1 u3.1)) (Sl.addend hb7) (by simp [B, U]) (by omega)
  have K58 : Keep (all H5) H5 H8 := (d3.trans u3).trans w3
  have hx8 : SlU (all H8) H8 (a ++ 10 :: b) x'' := by
    have e : B (U a ++ [10]) ++ B (U b) = B (U (a ++ 10 :: b)) := by simp [B, U]
    have el : a.length + 1 + b.length = (a ++ 10 :: b).length := by simp; omega
    rw [e, el] at w2
    exact w2.sl
  have K8 := K5.tr K58
  obtain ⟨es, H9, p1, p2, p3⟩ := parse_ok (Box.up hL K8) hx8 (by simp; omega)
  have k10 : Keep (all H9) H9 (H9.push ⟨es, 1, true⟩) := push_keep
  have s10 := boxF p3 (H' := H9)
  have g10 : (H9.push ⟨es, 1, true⟩).get H9.n = some ⟨es, 1, true⟩ := push_self
  have n10 : (H9.push ⟨es, 1, true⟩).n = H9.n + 1 := push_n
  have r10 := Rp.up p3 k10
  have K510 : Keep (all H5) H5 (H9.push ⟨es, 1, true⟩) := (K58.tr p2).tr k10
  have g3'' : (H9.push ⟨es, 1, true⟩).get H2.n = some ⟨cs, 1, true⟩ := by rw [K510.2 _ (by show H2.n < H5.n; omega)]; exact g3'
  have g5'' : (H9.push ⟨es, 1, true⟩).get H4.n = some ⟨ds, 1, true⟩ := by rw [K510.2 _ (by show H4.n < H5.n; omega)]; exact g5
  have r3'' := Rp.up r3' K510
  have r5'' := Rp.up r5 K510
  have K10 := K5.tr K510
  generalize hH10 : H9.push ⟨es, 1, true⟩ = H10 at *
  have lS : ldC (ptr H2.n 1) H10 = some (.string (bs (gparse a).1.S), H10) := by
    obtain ⟨_, _, _, _, e, _⟩ := rep_fl.1 r3''
    exact Box.ld (R := fun _ => True) ⟨trivial, _, _, g3''⟩ (by rw [e]; rfl)
  have lG : ldC (ptr H4.n 1) H10 = some (.string (bs (gparse b).1.S), H10) := by
    obtain ⟨_, _, _, _, e, _⟩ := rep_fl.1 r5''
    exact Box.ld (R := fun _ => True) ⟨trivial, _, _, g5''⟩ (by rw [e]; rfl)
  have l3 := ld5 g3'' (Rp.len r3'')
  have l5 := ld5 g5'' (Rp.len r5'')
  have l10 := ld5 g10 (Rp.len r10)
  obtain ⟨fa1, fa2⟩ := gparse_fk a
  obtain ⟨fb1, fb2⟩ := gparse_fk b
  by_cases hS : (gparse a).1.S ≠ [] ∧ (gparse b).1.S ≠ []
  · obtain ⟨q1, q2⟩ := j1 hS.1 hS.2
    obtain ⟨H11, f1, f2⟩ := awake_ok (Box.up hL K10)
    refine ⟨H11, ?_, K10.tr f2⟩
    have q2' : (((gparse (a ++ 10 :: b)).2.1) > (a.length : Int)) = True := eq_true q2
    rw [q1] at p1
    have la10 : lenS v = some (.int .i64 (a.length : Int)) := ha.len
    refine Ev.enter (fun n => f4_eq rfl n _ _ _) ?_
    simp only [f4, ruA, ruB, ruC, ruE, ruD, lenStr, Int.reduceBEq, Int.reduceBNe, eA, eB, e1, e2, t1, t2]
    refine Ev.callC b1 ?_
    simp only [ruA, ruB, ruC, ruE, ruD, lenStr, Int.reduceBEq, Int.reduceBNe, newF, s3, hH3]
    refine Ev.callC c1 ?_
    simp only [ruA, ruB, ruC, ruE, ruD, lenStr, Int.reduceBEq, Int.reduceBNe, newF, s5, hH5, ha0', hb0']
    refine Ev.callC d1 ?_
    have u1' : Eng.app 1 1 x (.slice (some ⟨H6.n, 0, none⟩) 1 1) (H6.push ⟨[.int .u8 10], 1, true⟩) = some (x', H7) := u1
    have bl : bldS 1 1 [.int .u8 0] [(0, 1, .int .u8 10)] H6 = some (.slice (some ⟨H6.n, 0, none⟩) 1 1, H6.push ⟨[.int .u8 10], 1, true⟩) := bld1 rfl rfl
    simp only [ruA, ruB, ruC, ruE, ruD, lenStr, Int.reduceBEq, Int.reduceBNe, bl, u1', w1]
    refine Ev.callC p1 ?_
    simp only [ruA, ruB, ruC, ruE, ruD, lenStr, Int.reduceBEq, Int.reduceBNe, newF, s10, hH10, lS, lG, e_empty', decide_eq_false hS.1, decide_eq_false hS.2, la10, q2']
    refine Ev.callC f1 ?_
    exact Ev.pure _
  · have hS' : (gparse a).1.S = [] ∨ (gparse b).1.S = [] := by
      by_cases h1 : (gparse a).1.S = []
      · exact .inl h1
      · right
        by_cases h2 : (gparse b).1.S = []
        · exact h2
        · exact absurd ⟨h1, h2⟩ hS
    have q1 := j2 hS'
    rw [q1] at p1 r10
    obtain ⟨jv, H11, z1, z2, js, rfl, z3⟩ := joined_ok r3'' r5'' (fsm_of fa1 (by omega)) (fsm_of fb1 (by omega))
    have fo : Fok (joinN (gparse a).1 (gparse b).1) := fok_of (fk_join fa1 fb1) (by rw [flen_join]; omega)
    obtain ⟨H12, y1, y2⟩ := rsame_ok (Rp.up r10 z2) z3 fo fo
    rw [decide_eq_true rfl] at y1
    have K12 := (K10.tr z2).tr y2
    obtain ⟨H13, f1, f2⟩ := awake_ok (Box.up hL K12)
    have ck : sameBlk H10 H11 (blkOf (ptr H9.n 0)) = true := sameBlk_of fun c hc => by
      have : c = H9.n := by simpa [blkOf] using hc.symm
      subst this; exact z2.2 _ (by show H9.n < H10.n; omega)
    refine ⟨H13, ?_, K12.tr f2⟩
    refine Ev.enter (fun n => f4_eq rfl n _ _ _) ?_
    simp only [f4, ruA, ruB, ruC, ruE, ruD, lenStr, Int.reduceBEq, Int.reduceBNe, eA, eB, e1, e2, t1, t2]
    refine Ev.callC b1 ?_
    simp only [ruA, ruB, ruC, ruE, ruD, lenStr, Int.reduceBEq, Int.reduceBNe, newF, s3, hH3]
    refine Ev.callC c1 ?_
    simp only [ruA, ruB, ruC, ruE, ruD, lenStr, Int.reduceBEq, Int.reduceBNe, newF, s5, hH5, ha0', hb0']
    refine Ev.callC d1 ?_
    have u1' : Eng.app 1 1 x (.slice (some ⟨H6.n, 0, none⟩) 1 1) (H6.push ⟨[.int .u8 10], 1, true⟩) = some (x', H7) := u1
    have bl : bldS 1 1 [.int .u8 0] [(0, 1, .int .u8 10)] H6 = some (.slice (some ⟨H6.n, 0, none⟩) 1 1, H6.push ⟨[.int .u8 10], 1, true⟩) := bld1 rfl rfl
    simp only [ruA, ruB, ruC, ruE, ruD, lenStr, Int.reduceBEq, Int.reduceBNe, bl, u1', w1]
    refine Ev.callC p1 ?_
    by_cases h1 : (gparse a).1.S = []
    · simp only [ruA, ruB, ruC, ruE, ruD, lenStr, Int.reduceBEq, Int.reduceBNe, newF, s10, hH10, lS, e_empty', decide_eq_true h1, l10, l3, l5, Bool.or_true, if_true, Bool.and_true]
      refine Ev.callC z1 ?_
      simp only [ruA, ruB, ruC, ruE, ruD, lenStr, Int.reduceBEq, Int.reduceBNe, ck, Bool.or_true, Bool.and_true]
      refine Ev.callC y1 ?_
      simp only [ruA, ruB, ruC, ruE, ruD, lenStr, Int.reduceBEq, Int.reduceBNe, Bool.or_true]
      refine Ev.callC f1 ?_
      exact Ev.pure _
    · have h2 : (gparse b).1.S = [] := by rcases hS' with h | h; exact absurd h h1; exact h
      simp only [ruA, ruB, ruC, ruE, ruD, lenStr, Int.reduceBEq, Int.reduceBNe, newF, s10, hH10, lS, lG, e_empty', decide_eq_false h1, decide_eq_true h2, l10, l3, l5, Bool.or_true, if_true, Bool.and_true]
      refine Ev.callC z1 ?_
      simp only [ruA, ruB, ruC, ruE, ruD, lenStr, Int.reduceBEq, Int.reduceBNe, ck, Bool.or_true, Bool.and_true]
      refine Ev.callC y1 ?_
      simp only [ruA, ruB, ruC, ruE, ruD, lenStr, Int.reduceBEq, Int.reduceBNe, Bool.or_true]
      refine Ev.callC f1 ?_
      exact Ev.pure _
end Go.Eng
