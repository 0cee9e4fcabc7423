/- The reference's Cut; two lists of words. -/
import Derived.Test.YtmfbebfpeimflaaDoorGI
set_option linter.unusedVariables false
set_option linter.unusedSimpArgs false
set_option maxRecDepth 100000
namespace Go.Eng
open Go Go.Proofs

theorem drop_twl {α : Type} {p : α → Bool} : ∀ {l : List α}, l.drop (l.takeWhile p).length = l.dropWhile p
  | [] => rfl
  | a :: l => by
    by_cases h : p a = true
    · simp [h, drop_twl (l := l)]
    · simp [h]
section
variable {H0 : Heap} {b : List UInt8} {x0 : Value}
/-- A remark's end. -/
theorem rem_loop {H : Heap} {x5 : Value} {r : Value × Heap} (hx : SlU (all H0) H b x0) (hb : b.length ≤ 8192) : ∀ (k a : Nat), b.length - a ≤ k → a ≤ b.length →
    Ev (fun n m => f19_L0 real (AC n) n m x0 x5 (.int .i64 ((a + ((b.drop a).takeWhile (· ≠ 10)).length : Nat) : Int)) H) r →
    Ev3 (fun n m j => f19_L1 real (AC n) n (f19_L0 real (AC n) n m) j x0 x5 (.int .i64 (a : Int)) H) r := by
  intro k
  induction k with
  | zero =>
    intro a hk ha h
    obtain rfl : a = b.length := by omega
    rw [List.drop_length] at h
    refine Ev3.step (fun n m j => f19_L1.eq_2 _ _ _ _ _ _ _ _ _) ?_
    simp only [ruA, ruB, ruC, ruE, ruD, lenStr, Int.reduceBEq, Int.reduceBNe, hx.len, idx_ge (Nat.le_refl b.length)]
    exact Ev3.of h
  | succ k ih =>
    intro a hk ha h
    refine Ev3.step (fun n m j => f19_L1.eq_2 _ _ _ _ _ _ _ _ _) ?_
    rcases Nat.lt_or_ge a b.length with hlt | hge
    case inr =>
      obtain rfl : a = b.length := by omega
      rw [List.drop_length] at h
      simp only [ruA, ruB, ruC, ruE, ruD, lenStr, Int.reduceBEq, Int.reduceBNe, hx.len, idx_ge (Nat.le_refl b.length)]
      exact Ev3.of h
    case inl =>
      obtain ⟨c, hc, hd⟩ := drop_at (l := b) (i := a) hlt
      obtain ⟨p, p1, p2⟩ := hx.at (i := a) hc
      rw [hd] at h
      simp only [ruA, ruB, ruC, ruE, ruD, lenStr, Int.reduceBEq, Int.reduceBNe, hx.len, idx_lt hlt, p1, p2, b_neq, u8_lit c 10 (n := 10) rfl, bne]
      by_cases h10 : c = 10
      · have e : ((c :: b.drop (a + 1)).takeWhile (fun x : UInt8 => decide (x ≠ 10))).length = 0 := by simp [h10]
        rw [e] at h
        simp only [decide_eq_true h10, Bool.not_true, ruA, ruB, ruC, ruE, ruD, lenStr, Int.reduceBEq, Int.reduceBNe]
        exact Ev3.of h
      · have e : ((c :: b.drop (a + 1)).takeWhile (fun x : UInt8 => decide (x ≠ 10))).length = ((b.drop (a + 1)).takeWhile (fun x : UInt8 => decide (x ≠ 10))).length + 1 := by simp [h10]
        rw [e] at h
        simp only [decide_eq_false h10, Bool.not_false, ruA, ruB, ruC, ruE, ruD, lenStr, Int.reduceBEq, Int.reduceBNe, idx_up (show a < 9223372036854775807 by omega)]
        refine ih (a + 1) (by omega) (by omega) ?_
        rw [show a + 1 + ((b.drop (a + 1)).takeWhile (fun x : UInt8 => decide (x ≠ 10))).length = a + (((b.drop (a + 1)).takeWhile (fun x : UInt8 => decide (x ≠ 10))).length + 1) by omega]
        exact h
theorem cut_rloop (hx0 : SlU (all H0) H0 b x0) (hb : b.length ≤ 8192) : ∀ (k a : Nat) (H : Heap) (x5 : Value) (pre : List Tok), b.length - a ≤ k → a ≤ b.length → pre.length + (b.length - a) ≤ 8192 →
    Keep (all H0) H0 H → Acc (all H0) H 3 x5 pre.length (TOKS pre) →
    ∃ w H', Ev (fun n m => f19_L0 real (AC n) n m x0 x5 (.int .i64 (a : Int)) H) (.tuple #[w, .int .i64 (cutG pre (cutN a (b.drop a))).2.1, .int .i64 (cutG pre (cutN a (b.drop a))).2.2], H') ∧
      Acc (all H0) H' 3 w (cutG pre (cutN a (b.drop a))).1.length (TOKS (cutG pre (cutN a (b.drop a))).1) ∧ Keep (all H0) H0 H' := by
  intro k
  induction k with
  | zero =>
    intro a H x5 pre hk ha hp hK hA
    obtain rfl : a = b.length := by omega
    rw [List.drop_length, cut_nil]
    have hx : SlU (all H0) H b x0 := Sl.keep hx0 hK
    refine ⟨x5, H, ?_, by simpa [cutG] using hA, hK⟩
    refine Ev.step (fun n m => f19_L0.eq_2 _ _ _ _ _ _ _ _) ?_
    simp only [ruA, ruB, ruC, ruE, ruD, lenStr, Int.reduceBEq, Int.reduceBNe, hx.len, idx_ge (Nat.le_refl b.length), cutG]
    exact Ev.pure _
  | succ k ih =>
    intro a H x5 pre hk ha hp hK hA
    have hx : SlU (all H0) H b x0 := Sl.keep hx0 hK
    rcases Nat.lt_or_ge a b.length with hlt | hge
    case inr =>
      obtain rfl : a = b.length := by omega
      rw [List.drop_length, cut_nil]
      refine ⟨x5, H, ?_, by simpa [cutG] using hA, hK⟩
      refine Ev.step (fun n m => f19_L0.eq_2 _ _ _ _ _ _ _ _) ?_
      simp only [ruA, ruB, ruC, ruE, ruD, lenStr, Int.reduceBEq, Int.reduceBNe, hx.len, idx_ge (Nat.le_refl b.length), cutG]
      exact Ev.pure _
    case inl =>
      obtain ⟨c, hc, hd⟩ := drop_at (l := b) (i := a) hlt
      obtain ⟨p, p1, p2⟩ := hx.at (i := a) hc
      have hup := idx_up (show a < 9223372036854775807 by omega)
      have blank : wBlank c = true → ∃ w H', Ev (fun n m => f19_L0 real (AC n) n m x0 x5 (.int .i64 ((a + 1 : Nat) : Int)) H) (.tuple #[w, .int .i64 (cutG pre (cutN a (b.drop a))).2.1, .int .i64 (cutG pre (cutN a (b.drop a))).2.2], H') ∧
          Acc (all H0) H' 3 w (cutG pre (cutN a (b.drop a))).1.length (TOKS (cutG pre (cutN a (b.drop a))).1) ∧ Keep (all H0) H0 H' := by
        intro hbl
        have := ih (a + 1) H x5 pre (by omega) (by omega) (by omega) hK hA
        rwa [hd, cut_blank hbl]
      by_cases c32 : c = 32
      · obtain ⟨w, H', g1, g2⟩ := blank (by simp [wBlank, c32])
        refine ⟨w, H', ?_, g2⟩
        refine Ev.step (fun n m => f19_L0.eq_2 _ _ _ _ _ _ _ _) ?_
        simp only [ruA, ruB, ruC, ruE, ruD, lenStr, Int.reduceBEq, Int.reduceBNe, hx.len, idx_lt hlt, p1, p2, u8_lit c 32 (n := 32) rfl, decide_eq_true c32, hup]
        exact g1
      by_cases c9 : c = 9
      · obtain ⟨w, H', g1, g2⟩ := blank (by simp [wBlank, c9])
        refine ⟨w, H', ?_, g2⟩
        refine Ev.step (fun n m => f19_L0.eq_2 _ _ _ _ _ _ _ _) ?_
        simp only [ruA, ruB, ruC, ruE, ruD, lenStr, Int.reduceBEq, Int.reduceBNe, hx.len, idx_lt hlt, p1, p2, u8_lit c 32 (n := 32) rfl, decide_eq_false c32, u8_lit c 9 (n := 9) rfl, decide_eq_true c9, hup]
        exact g1
      by_cases c10 : c = 10
      · obtain ⟨w, H', g1, g2⟩ := blank (by simp [wBlank, c10])
        refine ⟨w, H', ?_, g2⟩
        refine Ev.step (fun n m => f19_L0.eq_2 _ _ _ _ _ _ _ _) ?_
        simp only [ruA, ruB, ruC, ruE, ruD, lenStr, Int.reduceBEq, Int.reduceBNe, hx.len, idx_lt hlt, p1, p2, u8_lit c 32 (n := 32) rfl, decide_eq_false c32, u8_lit c 9 (n := 9) rfl, decide_eq_false c9, u8_lit c 10 (n := 10) rfl, decide_eq_true c10, hup]
        exact g1
      by_cases c13 : c = 13
      · obtain ⟨w, H', g1, g2⟩ := blank (by simp [wBlank, c13])
        refine ⟨w, H', ?_, g2⟩
        refine Ev.step (fun n m => f19_L0.eq_2 _ _ _ _ _ _ _ _) ?_
        simp only [ruA, ruB, ruC, ruE, ruD, lenStr, Int.reduceBEq, Int.reduceBNe, hx.len, idx_lt hlt, p1, p2, u8_lit c 32 (n := 32) rfl, decide_eq_false c32, u8_lit c 9 (n := 9) rfl, decide_eq_false c9, u8_lit c 10 (n := 10) rfl, decide_eq_false c10, u8_lit c 13 (n := 13) rfl, decide_eq_true c13, hup]
        exact g1
      have hbl : wBlank c = false := by simp [wBlank, c32, c9, c10, c13]
      by_cases hc35 : c = 35
      · subst hc35
        have e35 : ((35 :: b.drop (a + 1)).takeWhile (fun x : UInt8 => decide (x ≠ 10))).length = ((b.drop (a + 1)).takeWhile (fun x : UInt8 => decide (x ≠ 10))).length + 1 := by simp
        have hle := takeWhile_le (p := (fun x : UInt8 => decide (x ≠ 10))) (b.drop (a + 1))
        rw [List.length_drop] at hle
        obtain ⟨w, H', g1, g2⟩ := ih (a + 1 + ((b.drop (a + 1)).takeWhile (fun x : UInt8 => decide (x ≠ 10))).length) H x5 pre (by omega) (by omega) (by omega) hK hA
        have ed : b.drop (a + 1 + ((b.drop (a + 1)).takeWhile (fun x : UInt8 => decide (x ≠ 10))).length) = (b.drop (a + 1)).dropWhile (fun x : UInt8 => decide (x ≠ 10)) := by
          rw [← List.drop_drop]
          exact drop_twl
        rw [ed] at g1 g2
        rw [hd, cut_remark]
        refine ⟨w, H', ?_, g2⟩
        refine Ev.step (fun n m => f19_L0.eq_2 _ _ _ _ _ _ _ _) ?_
        simp only [ruA, ruB, ruC, ruE, ruD, lenStr, Int.reduceBEq, Int.reduceBNe, hx.len, idx_lt hlt, p1, p2, u8_lit 35 32 (n := 32) rfl, decide_eq_false c32, u8_lit 35 9 (n := 9) rfl, decide_eq_false c9, u8_lit 35 10 (n := 10) rfl, decide_eq_false c10, u8_lit 35 13 (n := 13) rfl, decide_eq_false c13, u8_lit 35 35 (n := 35) rfl, decide_true]
        refine (rem_loop hx hb _ a (Nat.le_refl _) ha ?_).close
        rw [hd, e35, show a + (((b.drop (a + 1)).takeWhile (fun x : UInt8 => decide (x ≠ 10))).length + 1) = a + 1 + ((b.drop (a + 1)).takeWhile (fun x : UInt8 => decide (x ≠ 10))).length by omega]
        exact g1
      · obtain ⟨H1, w1, w2⟩ := rword_ok ((Rb.all H0).mono hK.1) hx hd (by omega)
        have kk : Keep (all H0) H H1 := w2.of_all ((Rb.all H0).mono hK.1)
        have st : stV 3 (ptr H1.n 0) (tokV (tokAt a (c :: b.drop (a + 1)))) (H1.push ⟨[.int .i64 0, .int .i64 0, .int .i64 0], 1, true⟩) = some (undef, H1.push ⟨TOK (tokAt a (c :: b.drop (a + 1))), 1, true⟩) := stA_push (ds := TOK (tokAt a (c :: b.drop (a + 1)))) rfl rfl rfl
        have ld : ldC (ptr H1.n 0) (H1.push ⟨TOK (tokAt a (c :: b.drop (a + 1))), 1, true⟩) = some (.int .i64 ((tokAt a (c :: b.drop (a + 1))).K : Int), H1.push ⟨TOK (tokAt a (c :: b.drop (a + 1))), 1, true⟩) := push_boxA.ld rfl
        rw [hd]
        by_cases hw : (wordN (c :: b.drop (a + 1))).1 = 0
        · have et : tokAt a (c :: b.drop (a + 1)) = ⟨0, 0, 0⟩ := by unfold tokAt; rw [if_pos hw]
          rw [et] at w1 st ld
          rw [cut_bad hbl hc35 hw]
          refine ⟨nilS, H1.push ⟨TOK ⟨0, 0, 0⟩, 1, true⟩, ?_, Acc.nil, hK.trans (kk.trans (push_keep.of_all ((Rb.all H0).mono (Nat.le_trans hK.1 w2.1))))⟩
          refine Ev.step (fun n m => f19_L0.eq_2 _ _ _ _ _ _ _ _) ?_
          simp only [ruA, ruB, ruC, ruE, ruD, lenStr, Int.reduceBEq, Int.reduceBNe, hx.len, idx_lt hlt, p1, p2, u8_lit c 32 (n := 32) rfl, decide_eq_false c32, u8_lit c 9 (n := 9) rfl, decide_eq_false c9, u8_lit c 10 (n := 10) rfl, decide_eq_false c10, u8_lit c 13 (n := 13) rfl, decide_eq_false c13, u8_lit c 35 (n := 35) rfl, decide_eq_false hc35]
          refine Ev.callC w1 ?_
          have e0 : (((0 : Nat) : Int) == 0) = true := rfl
          simp only [ruA, ruB, ruC, ruE, ruD, lenStr, Int.reduceBEq, Int.reduceBNe, new3, st, ld, e0, cutG]
          exact Ev.pure _
        · have et : tokAt a (c :: b.drop (a + 1)) = ⟨(wordN (c :: b.drop (a + 1))).1, a, a + (wordN (c :: b.drop (a + 1))).2⟩ := by unfold tokAt; rw [if_neg hw]
          rw [et] at w1 st ld
          obtain ⟨g1, g2, _, _⟩ := word_ext hw
          have hln : (c :: b.drop (a + 1)).length = b.length - a := by rw [← hd, List.length_drop]
          rw [cut_word hbl hc35 hw, cutG_word]
          generalize hW : (wordN (c :: b.drop (a + 1))) = W at *
          have k1 : Keep (all H1) H1 (H1.push ⟨TOK ⟨W.1, a, a + W.2⟩, 1, true⟩) := push_keep
          have hA1 := (hA.keep w2).keep k1
          have ld3 : Eng.ldA 3 (ptr H1.n 0) (H1.push ⟨TOK ⟨W.1, a, a + W.2⟩, 1, true⟩) = some (.agg #[.int .i64 (W.1 : Int), .int .i64 (a : Int), .int .i64 ((a + W.2 : Nat) : Int)], H1.push ⟨TOK ⟨W.1, a, a + W.2⟩, 1, true⟩) := ldA_push rfl
          have kH1 : Keep (all H0) H H1 := kk
          generalize hH2 : H1.push ⟨TOK ⟨W.1, a, a + W.2⟩, 1, true⟩ = H2 at *
          have hn2 : H2.n = H1.n + 1 := by rw [← hH2]; simp [push_n]
          have hb2 : H2.get H1.n = some ⟨TOK ⟨W.1, a, a + W.2⟩, 1, true⟩ := by rw [← hH2]; exact push_self
          obtain ⟨v2, H3, a1, a2, a3, a4⟩ := tok_app hA1 (Nat.le_trans hK.1 (Nat.le_trans w2.1 k1.1)) ⟨W.1, a, a + W.2⟩ (by omega)
          have hb3 : H3.get H1.n = some ⟨TOK ⟨W.1, a, a + W.2⟩, 1, true⟩ := by
            rw [a4 _ (fun e => by have h := (hA.at e).2; have h' := w2.1; omega) (by omega)]; exact hb2
          have ldT : ldC (ptr H1.n 2) H3 = some (.int .i64 ((a + W.2 : Nat) : Int), H3) := Box.ld (R := fun _ => True) ⟨trivial, _, _, hb3⟩ rfl
          have k13 : Keep (all H0) H1 H3 := (k1.of_all ((Rb.all H0).mono (Nat.le_trans hK.1 w2.1))).trans a3
          obtain ⟨w, H', q1, q2, q3⟩ := ih (a + W.2) H3 v2 (pre ++ [⟨W.1, a, a + W.2⟩]) (by omega) (by omega) (by simp only [List.length_append, List.length_cons, List.length_nil]; omega) (hK.trans (kk.trans k13)) a2
          have ed : b.drop (a + W.2) = (c :: b.drop (a + 1)).drop W.2 := by rw [← hd, List.drop_drop]
          rw [ed] at q1 q2
          refine ⟨w, H', ?_, q2, q3⟩
          refine Ev.step (fun n m => f19_L0.eq_2 _ _ _ _ _ _ _ _) ?_
          simp only [ruA, ruB, ruC, ruE, ruD, lenStr, Int.reduceBEq, Int.reduceBNe, hx.len, idx_lt hlt, p1, p2, u8_lit c 32 (n := 32) rfl, decide_eq_false c32, u8_lit c 9 (n := 9) rfl, decide_eq_false c9, u8_lit c 10 (n := 10) rfl, decide_eq_false c10, u8_lit c 13 (n := 13) rfl, decide_eq_false c13, u8_lit c 35 (n := 35) rfl, decide_eq_false hc35]
          refine Ev.callC w1 ?_
          have e0 : ((W.1 : Int) == 0) = false := by
            rw [Bool.eq_false_iff]; intro h; have : (W.1 : Int) = 0 := by simpa using h
            omega
          have a1' : app 3 24 x5 (.slice (some ⟨H2.n, 0, none⟩) 1 1) (H2.push ⟨[.int .i64 (W.1 : Int), .int .i64 (a : Int), .int .i64 ((a + W.2 : Nat) : Int)], 3, true⟩) = some (v2, H3) := a1
          simp only [ruA, ruB, ruC, ruE, ruD, lenStr, Int.reduceBEq, Int.reduceBNe, new3, st, hH2, ld, e0, ld3, bldS3, a1', ldT]
          exact q1
theorem rcut_ok {H : Heap} {v : Value} (hs : SlU (all H) H b v) (hb : b.length < 9223372036854775807) :
    ∃ w H', Cl 19 [v] H (.tuple #[w, .int .i64 (cutR b).2.1, .int .i64 (cutR b).2.2]) H' ∧ Acc (all H) H' 3 w (cutR b).1.length (TOKS (cutR b).1) ∧ Keep (all H) H H' := by
  unfold cutR
  by_cases h : 8192 < b.length
  · rw [if_pos h]
    refine ⟨nilS, H, ?_, Acc.nil, Keep.refl _ _⟩
    refine Ev.enter (fun n => f19_eq rfl n _ _) ?_
    simp only [f19, ruA, ruB, ruC, ruE, ruD, lenStr, Int.reduceBEq, Int.reduceBNe, hs.len, eq_true (show ((b.length : Int) > 8192) by omega)]
    exact Ev.pure _
  · rw [if_neg h]
    obtain ⟨w, H', g1, g2, g3⟩ := cut_rloop hs (by omega) b.length 0 H nilS [] (by omega) (by omega) (by simp; omega) (Keep.refl _ _) Acc.nil
    rw [List.drop_zero] at g1 g2
    refine ⟨w, H', ?_, g2, g3⟩
    refine Ev.enter (fun n => f19_eq rfl n _ _) ?_
    simp only [f19, ruA, ruB, ruC, ruE, ruD, lenStr, Int.reduceBEq, Int.reduceBNe, hs.len, eq_false (show ¬ ((b.length : Int) > 8192) by omega)]
    exact g1.loop
end
end Go.Eng
