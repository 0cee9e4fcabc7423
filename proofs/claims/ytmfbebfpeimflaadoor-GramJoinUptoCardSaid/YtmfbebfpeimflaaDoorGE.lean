/- The program's words. -/
import Derived.Test.YtmfbebfpeimflaaDoorGD
set_option linter.unusedVariables false
set_option linter.unusedSimpArgs false
namespace Go.Eng
open Go Go.Proofs

/-! ### where something ends -/
theorem endedN_cons (e x c : UInt8) (r : List UInt8) : endedN e x (c :: r) = if wEnd c then none else if c = e then some 0 else if c = x then (match r with | [] => none | d :: r' => if wEnd d then none else (endedN e x r').map (· + 2)) else (endedN e x r).map (· + 1) := by
  cases r with
  | nil =>
    simp only [endedN]
    by_cases h1 : wEnd c = true
    · simp [h1]
    · by_cases h2 : c = e
      · simp [h1, h2]
      · simp [h1, h2]
  | cons d r' => simp only [endedN]
theorem end_in (c : UInt8) : decide (c ∈ ([10, 13] : List UInt8)) = wEnd c := by simp [wEnd]
theorem sign_in (c : UInt8) : decide (c ∈ ([61, 59, 58, 124] : List UInt8)) = wSign c := by simp [wSign]
theorem ended_J1 {e x : UInt8} {l : List UInt8} {H : Heap} {R0 : Value → Value → Value → Value → Heap → Option (Value × Heap)} {C : CallF} {n i : Nat} (hi : i < 9223372036854775807) :
    f49_J1 real C n R0 (.string (bs l)) (.int .u8 (e.toNat : Int)) (.int .u8 (x.toNat : Int)) (.int .i64 (i : Int)) H = R0 (.string (bs l)) (.int .u8 (e.toNat : Int)) (.int .u8 (x.toNat : Int)) (.int .i64 ((i + 1 : Nat) : Int)) H := by
  simp only [f49_J1, ruA, ruB, ruC, ruE, ruD, lenStr, Int.reduceBEq, Int.reduceBNe, idx_up hi]
theorem ended_loop {e x : UInt8} {l : List UInt8} {H : Heap} (hl : l.length < 9223372036854775800) : ∀ (k i : Nat), l.length + 1 - i ≤ k → i ≤ l.length + 1 →
    Ev (fun n m => f49_L0 real (AC n) n m (.string (bs l)) (.int .u8 (e.toNat : Int)) (.int .u8 (x.toNat : Int)) (.int .i64 (i : Int)) H) (.int .i64 (placeI ((endedN e x (l.drop i)).map (· + i))), H) := by
  intro k
  induction k with
  | zero =>
    intro i hk hi
    refine Ev.step (fun n m => f49_L0.eq_2 _ _ _ _ _ _ _ _ _) ?_
    rw [List.drop_eq_nil_of_le (by omega)]
    simp only [ruA, ruB, ruC, ruE, ruD, lenStr, Int.reduceBEq, Int.reduceBNe, bs_size, idx_ge (show l.length ≤ i by omega)]
    exact Ev.pure _
  | succ k ih =>
    intro i hk hi
    rcases Nat.lt_or_ge i l.length with hlt | hge
    · obtain ⟨c, hc, hd⟩ := drop_at (l := l) (i := i) hlt
      refine Ev.step (fun n m => f49_L0.eq_2 _ _ _ _ _ _ _ _ _) ?_
      rw [hd, endedN_cons]
      simp only [ruA, ruB, ruC, ruE, ruD, lenStr, Int.reduceBEq, Int.reduceBNe, bs_size, idx_lt hlt, bs_idx hc]
      refine Ev.callC (idxs57 [10, 13] c H) ?_
      simp only [ruA, ruB, ruC, ruE, ruD, lenStr, Int.reduceBEq, Int.reduceBNe, idx_mem, end_in]
      cases he : wEnd c with
      | true =>
        simp only [ruA, ruB, ruC, ruE, ruD, lenStr, Int.reduceBEq, Int.reduceBNe, if_true]
        exact Ev.pure _
      | false =>
        simp only [ruA, ruB, ruC, ruE, ruD, lenStr, Int.reduceBEq, Int.reduceBNe, Bool.false_eq_true, if_false, u8_two]
        by_cases h1 : c = e
        · rw [if_pos h1]
          simp only [ruA, ruB, ruC, ruE, ruD, lenStr, Int.reduceBEq, Int.reduceBNe, decide_eq_true h1]
          simpa [placeI] using Ev.pure _
        · rw [if_neg h1]
          simp only [ruA, ruB, ruC, ruE, ruD, lenStr, Int.reduceBEq, Int.reduceBNe, decide_eq_false h1]
          by_cases h2 : c = x
          · rw [if_pos h2]
            simp only [ruA, ruB, ruC, ruE, ruD, lenStr, Int.reduceBEq, Int.reduceBNe, decide_eq_true h2, idx_up (show i < 9223372036854775807 by omega), bs_size]
            rcases Nat.lt_or_ge (i + 1) l.length with hlt2 | hge2
            · obtain ⟨d, hdc, hdd⟩ := drop_at (l := l) (i := i + 1) hlt2
              rw [hdd]
              simp only [ruA, ruB, ruC, ruE, ruD, lenStr, Int.reduceBEq, Int.reduceBNe, idx_lt hlt2, bs_idx hdc]
              refine Ev.callC (idxs57 [10, 13] d H) ?_
              simp only [ruA, ruB, ruC, ruE, ruD, lenStr, Int.reduceBEq, Int.reduceBNe, idx_mem, end_in]
              cases he2 : wEnd d with
              | true =>
                simp only [ruA, ruB, ruC, ruE, ruD, lenStr, Int.reduceBEq, Int.reduceBNe, if_true]
                exact Ev.pure _
              | false =>
                simp only [ruA, ruB, ruC, ruE, ruD, lenStr, Int.reduceBEq, Int.reduceBNe, Bool.false_eq_true, if_false]
                refine Ev.congr (fun n m => ended_J1 (by omega)) ?_
                have := ih (i + 1 + 1) (by omega) (by omega)
                rw [show ((endedN e x (l.drop (i + 1 + 1))).map (· + 2)).map (· + i) = (endedN e x (l.drop (i + 1 + 1))).map (· + (i + 1 + 1)) by
                  rw [Option.map_map]; congr 1; funext z; simp only [Function.comp]; omega]
                exact this
            · rw [List.drop_eq_nil_of_le hge2]
              simp only [ruA, ruB, ruC, ruE, ruD, lenStr, Int.reduceBEq, Int.reduceBNe, idx_ge hge2]
              refine Ev.congr (fun n m => ended_J1 (by omega)) ?_
              have := ih (i + 1 + 1) (by omega) (by omega)
              rw [List.drop_eq_nil_of_le (by omega)] at this
              exact this
          · rw [if_neg h2]
            simp only [ruA, ruB, ruC, ruE, ruD, lenStr, Int.reduceBEq, Int.reduceBNe, decide_eq_false h2]
            refine Ev.congr (fun n m => ended_J1 (by omega)) ?_
            have := ih (i + 1) (by omega) (by omega)
            rw [show ((endedN e x (l.drop (i + 1))).map (· + 1)).map (· + i) = (endedN e x (l.drop (i + 1))).map (· + (i + 1)) by
              rw [Option.map_map]; congr 1; funext z; simp only [Function.comp]; omega]
            exact this
    · refine Ev.step (fun n m => f49_L0.eq_2 _ _ _ _ _ _ _ _ _) ?_
      rw [List.drop_eq_nil_of_le hge]
      simp only [ruA, ruB, ruC, ruE, ruD, lenStr, Int.reduceBEq, Int.reduceBNe, bs_size, idx_ge hge]
      exact Ev.pure _
theorem ended_ok {l : List UInt8} (e x : UInt8) (H : Heap) (hl : l.length < 9223372036854775800) : Cl 49 [.string (bs l), .int .u8 (e.toNat : Int), .int .u8 (x.toNat : Int)] H (.int .i64 (placeI (endedN e x l))) H := by
  refine Ev.enter (fun n => f49_eq rfl n _ _ _ _) ?_
  have := (ended_loop (e := e) (x := x) (H := H) hl (l.length + 1) 0 (by omega) (by omega)).loop
  simp only [f49]
  simpa using this
theorem placeI_len (o : Option Nat) (n : Nat) : (placeI o == (n : Int)) = decide (o = some n) := by
  cases o with
  | none => simp [placeI]
  | some i =>
    rw [Bool.eq_iff_iff]
    simp only [placeI, beq_iff_eq, decide_eq_true_eq, Option.some.injEq]
    omega
theorem b_sadd {P : Program} {t : TypeId} {a b : List UInt8} (h : a.length + b.length < 9223372036854775807) : binB P .add t (.string (bs a)) (.string (bs b)) = some (.string (bs (a ++ b))) := by
  simp only [binB, strB, bs_size]
  rw [if_neg (by simp only [IntKind.max, IntKind.bits, IntKind.signed]; simp; omega), bs_append]
/-! ### a word -/
theorem up1 {n : Nat} (h : n < 9223372036854775807) : IntKind.i64.wrap (1 + (n : Int)) = ((n + 1 : Nat) : Int) := by rw [wrap_i64 (by omega) (by omega)]; omega
theorem up2 {n : Nat} (h : n < 9223372036854775800) : IntKind.i64.wrap ((n : Int) + 2) = ((n + 2 : Nat) : Int) := by rw [wrap_i64 (by omega) (by omega)]; omega
theorem up5 {n : Nat} (h : n < 9223372036854775800) : IntKind.i64.wrap (5 + (n : Int)) = ((5 + n : Nat) : Int) := by rw [wrap_i64 (by omega) (by omega)]; omega
theorem word_ok {c : UInt8} {r : List UInt8} {H : Heap} (hL : Lg H) (hl : (c :: r).length < 9223372036854775700) : ∃ H', Cl 34 [.string (bs (c :: r))] H (.tuple #[.int .i64 ((wordN (c :: r)).1 : Int), .int .i64 ((wordN (c :: r)).2 : Int)]) H' ∧ Keep (all H) H H' := by
  have hl' : r.length < 9223372036854775700 := by simp only [List.length_cons] at hl; omega
  have ec : idxS (.string (bs (c :: r))) (.int .i64 0) = some (.int .u8 (c.toNat : Int)) := bs_idx (i := 0) rfl
  have es : slcStr (.string (bs (c :: r))) (some (.int .i64 1)) none = some (.string (bs r)) := bs_from (l := c :: r) (i := 1) (by simp)
  obtain ⟨s1, s2⟩ := lang_sl hL
  have E : ∀ {v : Value} {H' : Heap}, Ev (fun n m => f34 real (AC n) n (.string (bs (c :: r))) H) (v, H') → Cl 34 [.string (bs (c :: r))] H v H' := fun h => Ev.enter (fun n => f34_eq rfl n _ _) h
  simp only [wordN]
  by_cases h1 : wSign c = true
  · refine ⟨H, E ?_, Keep.refl _ _⟩
    rw [if_pos h1]
    simp only [f34, ruA, ruB, ruC, ruE, ruD, lenStr, Int.reduceBEq, Int.reduceBNe, ec]
    refine Ev.callC (idxs57 [61, 59, 58, 124] c H) ?_
    simp only [ruA, ruB, ruC, ruE, ruD, lenStr, Int.reduceBEq, Int.reduceBNe, idx_mem, sign_in, h1]
    exact Ev.pure _
  · have h1 : wSign c = false := by simpa using h1
    simp only [h1, Bool.false_eq_true, if_false]
    by_cases h2 : c = 34
    · subst h2
      simp only [if_true]
      cases he : endedN 34 34 r with
      | none =>
        refine ⟨H, E ?_, Keep.refl _ _⟩
        simp only [f34, ruA, ruB, ruC, ruE, ruD, lenStr, Int.reduceBEq, Int.reduceBNe, ec]
        refine Ev.callC (idxs57 [61, 59, 58, 124] 34 H) ?_
        simp only [ruA, ruB, ruC, ruE, ruD, lenStr, Int.reduceBEq, Int.reduceBNe, idx_mem, sign_in, h1, u8_lit 34 34 (n := 34) rfl, decide_true, es]
        refine Ev.callC (ended_ok 34 34 H (by omega)) ?_
        simp only [ruA, ruB, ruC, ruE, ruD, lenStr, Int.reduceBEq, Int.reduceBNe, he, placeI, eq_false (show ¬ (-1 : Int) ≥ 0 by decide)]
        exact Ev.pure _
      | some n =>
        have hn := (ended_some he).1
        obtain ⟨H', p1, p2⟩ := path_ok (l := r.take n) H (by simp; omega)
        refine ⟨H', E ?_, p2⟩
        have es2 : slcStr (.string (bs (34 :: r))) (some (.int .i64 1)) (some (.int .i64 ((n + 1 : Nat) : Int))) = some (.string (bs (r.take n))) := bs_part (l := 34 :: r) (i := 1) (by omega) (by simp; omega)
        simp only [f34, ruA, ruB, ruC, ruE, ruD, lenStr, Int.reduceBEq, Int.reduceBNe, ec]
        refine Ev.callC (idxs57 [61, 59, 58, 124] 34 H) ?_
        simp only [ruA, ruB, ruC, ruE, ruD, lenStr, Int.reduceBEq, Int.reduceBNe, idx_mem, sign_in, h1, u8_lit 34 34 (n := 34) rfl, decide_true, es]
        refine Ev.callC (ended_ok 34 34 H (by omega)) ?_
        simp only [ruA, ruB, ruC, ruE, ruD, lenStr, Int.reduceBEq, Int.reduceBNe, he, placeI, eq_true (show (n : Int) ≥ 0 by omega), up1 (show n < 9223372036854775807 by omega), es2]
        refine Ev.callC p1 ?_
        cases hp : isPathN (r.take n) with
        | true =>
          simp only [ruA, ruB, ruC, ruE, ruD, lenStr, Int.reduceBEq, Int.reduceBNe, up2 (show n < 9223372036854775800 by omega), if_true]
          exact Ev.pure _
        | false =>
          simp only [ruA, ruB, ruC, ruE, ruD, lenStr, Int.reduceBEq, Int.reduceBNe, Bool.false_eq_true, if_false]
          exact Ev.pure _
    · simp only [if_neg h2]
      by_cases h3 : c = 47
      · subst h3
        simp only [if_true]
        cases he : endedN 47 92 r with
        | none =>
          refine ⟨H, E ?_, Keep.refl _ _⟩
          simp only [f34, ruA, ruB, ruC, ruE, ruD, lenStr, Int.reduceBEq, Int.reduceBNe, ec]
          refine Ev.callC (idxs57 [61, 59, 58, 124] 47 H) ?_
          simp only [ruA, ruB, ruC, ruE, ruD, lenStr, Int.reduceBEq, Int.reduceBNe, idx_mem, sign_in, h1, u8_lit 47 34 (n := 34) rfl, decide_eq_false h2, u8_lit 47 47 (n := 47) rfl, decide_true, es]
          refine Ev.callC (ended_ok 47 92 H (by omega)) ?_
          simp only [ruA, ruB, ruC, ruE, ruD, lenStr, Int.reduceBEq, Int.reduceBNe, he, placeI, eq_false (show ¬ (-1 : Int) ≥ 0 by decide)]
          exact Ev.pure _
        | some n =>
          have hn := (ended_some he).1
          refine ⟨H, E ?_, Keep.refl _ _⟩
          simp only [f34, ruA, ruB, ruC, ruE, ruD, lenStr, Int.reduceBEq, Int.reduceBNe, ec]
          refine Ev.callC (idxs57 [61, 59, 58, 124] 47 H) ?_
          simp only [ruA, ruB, ruC, ruE, ruD, lenStr, Int.reduceBEq, Int.reduceBNe, idx_mem, sign_in, h1, u8_lit 47 34 (n := 34) rfl, decide_eq_false h2, u8_lit 47 47 (n := 47) rfl, decide_true, es]
          refine Ev.callC (ended_ok 47 92 H (by omega)) ?_
          simp only [ruA, ruB, ruC, ruE, ruD, lenStr, Int.reduceBEq, Int.reduceBNe, he, placeI, eq_true (show (n : Int) ≥ 0 by omega), up2 (show n < 9223372036854775800 by omega)]
          exact Ev.pure _
      · simp only [if_neg h3]
        refine ⟨H, E ?_, Keep.refl _ _⟩
        simp only [f34, ruA, ruB, ruC, ruE, ruD, lenStr, Int.reduceBEq, Int.reduceBNe, ec]
        refine Ev.callC (idxs57 [61, 59, 58, 124] c H) ?_
        simp only [ruA, ruB, ruC, ruE, ruD, lenStr, Int.reduceBEq, Int.reduceBNe, idx_mem, sign_in, h1, u8_lit c 34 (n := 34) rfl, decide_eq_false h2, u8_lit c 47 (n := 47) rfl, decide_eq_false h3]
        refine Ev.callC (let_ok c H) ?_
        cases hlt : wLet c with
        | false =>
          simp only [ruA, ruB, ruC, ruE, ruD, lenStr, Int.reduceBEq, Int.reduceBNe, Bool.false_and, Bool.false_eq_true, if_false]
          exact Ev.pure _
        | true =>
          simp only [ruA, ruB, ruC, ruE, ruD, lenStr, Int.reduceBEq, Int.reduceBNe]
          refine Ev.callC (dig_ok c H) ?_
          cases hdg : wDig c with
          | true =>
            simp only [ruA, ruB, ruC, ruE, ruD, lenStr, Int.reduceBEq, Int.reduceBNe, Bool.and_false, Bool.false_eq_true, if_false]
            exact Ev.pure _
          | false =>
            simp only [ruA, ruB, ruC, ruE, ruD, lenStr, Int.reduceBEq, Int.reduceBNe, Bool.and_self, if_true]
            refine Ev.callC (letters_ok H (by omega)) ?_
            have hle : lettersN (c :: r) ≤ (c :: r).length := takeWhile_le _
            have et : (c :: r).take (lettersN (c :: r)) = (c :: r).takeWhile wLet := take_takeWhile
            have es3 : slcStr (.string (bs (c :: r))) none (some (.int .i64 (lettersN (c :: r) : Int))) = some (.string (bs ((c :: r).takeWhile wLet))) := by rw [bs_upto hle, et]
            simp only [ruA, ruB, ruC, ruE, ruD, lenStr, Int.reduceBEq, Int.reduceBNe, s1, es3]
            refine Ev.callC (index_ok s2 _ (by decide)) ?_
            cases hk : kws.idxOf? ((c :: r).takeWhile wLet) with
            | some i =>
              have hi := (idxOf_mem hk).1
              have hi9 : i < 9 := by simpa [kws] using hi
              simp only [ruA, ruB, ruC, ruE, ruD, lenStr, Int.reduceBEq, Int.reduceBNe, placeI, eq_true (show (i : Int) ≥ 0 by omega), up5 (show i < 9223372036854775800 by omega)]
              exact Ev.pure _
            | none =>
              simp only [ruA, ruB, ruC, ruE, ruD, lenStr, Int.reduceBEq, Int.reduceBNe, placeI, eq_false (show ¬ (-1 : Int) ≥ 0 by decide)]
              by_cases h24 : lettersN (c :: r) ≤ 24
              · simp only [ruA, ruB, ruC, ruE, ruD, lenStr, Int.reduceBEq, Int.reduceBNe, eq_true (show (lettersN (c :: r) : Int) ≤ 24 by omega), if_pos h24]
                exact Ev.pure _
              · simp only [ruA, ruB, ruC, ruE, ruD, lenStr, Int.reduceBEq, Int.reduceBNe, eq_false (show ¬ (lettersN (c :: r) : Int) ≤ 24 by omega), if_neg h24]
                exact Ev.pure _
end Go.Eng
