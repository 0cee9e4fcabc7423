/- Words, by the reference: patterns, where something ends. -/
import Derived.Test.YtmfbebfpeimflaaDoorGG
set_option linter.unusedVariables false
set_option linter.unusedSimpArgs false
namespace Go.Eng
open Go Go.Proofs

theorem map_some_add {o : Option Nat} {k n : Nat} : (o.map (· + k) = some (n + k)) ↔ o = some n := by
  cases o with
  | none => simp
  | some i => simp
theorem isPat_nil : isPatN [] = true := by decide
theorem isPat_cons (c : UInt8) (r : List UInt8) : isPatN (c :: r) = if wEnd c then false else if c = 47 then false else if c = 92 then (match r with | [] => false | d :: r2 => if wEnd d then false else isPatN r2) else isPatN r := by
  unfold isPatN
  rw [List.cons_append, endedN_cons]
  by_cases h1 : wEnd c = true
  · simp [h1]
  · simp only [h1, Bool.false_eq_true, if_false]
    by_cases h2 : c = 47
    · simp [h2]
    · simp only [if_neg h2]
      by_cases h3 : c = 92
      · simp only [if_pos h3]
        cases r with
        | nil => rfl
        | cons d r2 =>
          simp only [List.cons_append]
          by_cases h4 : wEnd d = true
          · simp [h4]
          · simp only [h4, Bool.false_eq_true, if_false]
            congr 1
            apply propext
            exact map_some_add
      · simp only [if_neg h3]
        congr 1
        apply propext
        exact map_some_add
theorem wEnd_cases {c : UInt8} : (wEnd c = true ∧ (c = 10 ∨ c = 13)) ∨ (wEnd c = false ∧ c ≠ 10 ∧ c ≠ 13) := by
  by_cases h : c = 10 ∨ c = 13
  · exact .inl ⟨by simp [wEnd, h], h⟩
  · exact .inr ⟨by simp [wEnd, h], fun e => h (.inl e), fun e => h (.inr e)⟩
/-! ### where something ends that begins at a place -/
theorem rended_J1 {l : Value} {a : Value} {H : Heap} {R0 : Value → Value → Value → Heap → Option (Value × Heap)} {C : CallF} {n i : Nat} (hi : i < 9223372036854775807) :
    f57_J1 real C n R0 l a (.int .i64 (i : Int)) H = R0 l a (.int .i64 ((i + 1 : Nat) : Int)) H := by
  simp only [f57_J1, ruA, ruB, ruC, ruE, ruD, lenStr, Int.reduceBEq, Int.reduceBNe, idx_up hi]
theorem rended_loop {R : Nat → Prop} {H : Heap} {b : List UInt8} {v : Value} (hs : SlU R H b v) {a : Nat} {q : UInt8} (hq : b[a]? = some q) (hb : b.length < 9223372036854775800) : ∀ (k i : Nat), b.length + 1 - i ≤ k → i ≤ b.length + 1 →
    Ev (fun n m => f57_L0 real (AC n) n m v (.int .i64 (a : Int)) (.int .i64 (i : Int)) H) (.int .i64 (placeI ((endedN q (if q = 47 then 92 else q) (b.drop i)).map (· + (i + 1)))), H) := by
  intro k
  obtain ⟨pa, pa1, pa2⟩ := hs.at hq
  induction k with
  | zero =>
    intro i hk hi
    refine Ev.step (fun n m => f57_L0.eq_2 _ _ _ _ _ _ _ _) ?_
    rw [List.drop_eq_nil_of_le (by omega)]
    simp only [ruA, ruB, ruC, ruE, ruD, lenStr, Int.reduceBEq, Int.reduceBNe, hs.len, idx_ge (show b.length ≤ i by omega)]
    exact Ev.pure _
  | succ k ih =>
    intro i hk hi
    rcases Nat.lt_or_ge i b.length with hlt | hge
    case inr =>
      refine Ev.step (fun n m => f57_L0.eq_2 _ _ _ _ _ _ _ _) ?_
      rw [List.drop_eq_nil_of_le hge]
      simp only [ruA, ruB, ruC, ruE, ruD, lenStr, Int.reduceBEq, Int.reduceBNe, hs.len, idx_ge hge]
      exact Ev.pure _
    case inl =>
      obtain ⟨c, hc, hd⟩ := drop_at (l := b) (i := i) hlt
      obtain ⟨p, p1, p2⟩ := hs.at hc
      refine Ev.step (fun n m => f57_L0.eq_2 _ _ _ _ _ _ _ _) ?_
      rw [hd, endedN_cons]
      have hup := idx_up (show i < 9223372036854775807 by omega)
      have hup2 := idx_up (show i + 1 < 9223372036854775807 by omega)
      have one : Ev (fun n m => f57_J1 real (AC n) n (f57_L0 real (AC n) n m) v (.int .i64 (a : Int)) (.int .i64 (i : Int)) H) (.int .i64 (placeI (((endedN q (if q = 47 then 92 else q) (b.drop (i + 1))).map (· + 1)).map (· + (i + 1)))), H) := by
        refine Ev.congr (fun n m => rended_J1 (by omega)) ?_
        have := ih (i + 1) (by omega) (by omega)
        rw [show ((endedN q (if q = 47 then 92 else q) (b.drop (i + 1))).map (· + 1)).map (· + (i + 1)) = (endedN q (if q = 47 then 92 else q) (b.drop (i + 1))).map (· + (i + 1 + 1)) by
          rw [Option.map_map]; congr 1; funext z; simp only [Function.comp]; omega]
        exact this
      simp only [ruA, ruB, ruC, ruE, ruD, lenStr, Int.reduceBEq, Int.reduceBNe, hs.len, idx_lt hlt, p1, p2]
      rcases wEnd_cases (c := c) with ⟨h1, h2⟩ | ⟨h1, h2, h3⟩
      · rw [h1]
        by_cases h10 : c = 10
        · simp only [u8_lit c 10 (n := 10) rfl, decide_eq_true h10, ruA, ruB, ruC, ruE, ruD, lenStr, Int.reduceBEq, Int.reduceBNe, if_true]
          exact Ev.pure _
        · have h13 : c = 13 := h2.resolve_left h10
          simp only [u8_lit c 10 (n := 10) rfl, decide_eq_false h10, ruA, ruB, ruC, ruE, ruD, lenStr, Int.reduceBEq, Int.reduceBNe, p1, p2, u8_lit c 13 (n := 13) rfl, decide_eq_true h13, if_true]
          exact Ev.pure _
      · rw [h1]
        simp only [u8_lit c 10 (n := 10) rfl, decide_eq_false h2, ruA, ruB, ruC, ruE, ruD, lenStr, Int.reduceBEq, Int.reduceBNe, p1, p2, u8_lit c 13 (n := 13) rfl, decide_eq_false h3, Bool.false_eq_true, if_false, pa1, pa2, u8_two]
        by_cases hcq : c = q
        · rw [if_pos hcq]
          simp only [decide_eq_true hcq, ruA, ruB, ruC, ruE, ruD, lenStr, Int.reduceBEq, Int.reduceBNe, hup]
          simpa [placeI] using Ev.pure _
        · rw [if_neg hcq]
          simp only [decide_eq_false hcq, ruA, ruB, ruC, ruE, ruD, lenStr, Int.reduceBEq, Int.reduceBNe, p1, p2]
          by_cases h92 : c = 92
          · simp only [u8_lit c 92 (n := 92) rfl, decide_eq_true h92, ruA, ruB, ruC, ruE, ruD, lenStr, Int.reduceBEq, Int.reduceBNe, pa1, pa2]
            by_cases h47 : q = 47
            · rw [if_pos (by rw [if_pos h47]; exact h92)]
              simp only [u8_lit q 47 (n := 47) rfl, decide_eq_true h47, ruA, ruB, ruC, ruE, ruD, lenStr, Int.reduceBEq, Int.reduceBNe, hup, hs.len]
              rcases Nat.lt_or_ge (i + 1) b.length with hlt2 | hge2
              · obtain ⟨d, hdc, hdd⟩ := drop_at (l := b) (i := i + 1) hlt2
                obtain ⟨r, r1, r2⟩ := hs.at hdc
                rw [hdd]
                simp only [idx_lt hlt2, ruA, ruB, ruC, ruE, ruD, lenStr, Int.reduceBEq, Int.reduceBNe, r1, r2]
                rcases wEnd_cases (c := d) with ⟨g1, g2⟩ | ⟨g1, g2, g3⟩
                · rw [g1]
                  by_cases g10 : d = 10
                  · simp only [u8_lit d 10 (n := 10) rfl, decide_eq_true g10, ruA, ruB, ruC, ruE, ruD, lenStr, Int.reduceBEq, Int.reduceBNe, if_true]
                    exact Ev.pure _
                  · have g13 : d = 13 := g2.resolve_left g10
                    simp only [u8_lit d 10 (n := 10) rfl, decide_eq_false g10, ruA, ruB, ruC, ruE, ruD, lenStr, Int.reduceBEq, Int.reduceBNe, r1, r2, u8_lit d 13 (n := 13) rfl, decide_eq_true g13, if_true]
                    exact Ev.pure _
                · rw [g1]
                  simp only [u8_lit d 10 (n := 10) rfl, decide_eq_false g2, ruA, ruB, ruC, ruE, ruD, lenStr, Int.reduceBEq, Int.reduceBNe, r1, r2, u8_lit d 13 (n := 13) rfl, decide_eq_false g3, Bool.false_eq_true, if_false]
                  refine Ev.congr (fun n m => rended_J1 (by omega)) ?_
                  have := ih (i + 1 + 1) (by omega) (by omega)
                  rw [show ((endedN q (if q = 47 then 92 else q) (b.drop (i + 1 + 1))).map (· + 2)).map (· + (i + 1)) = (endedN q (if q = 47 then 92 else q) (b.drop (i + 1 + 1))).map (· + (i + 1 + 1 + 1)) by
                    rw [Option.map_map]; congr 1; funext z; simp only [Function.comp]; omega]
                  exact this
              · rw [List.drop_eq_nil_of_le hge2]
                simp only [idx_ge hge2, ruA, ruB, ruC, ruE, ruD, lenStr, Int.reduceBEq, Int.reduceBNe]
                refine Ev.congr (fun n m => rended_J1 (by omega)) ?_
                have := ih (i + 1 + 1) (by omega) (by omega)
                rw [List.drop_eq_nil_of_le (by omega)] at this
                exact this
            · rw [if_neg (by rw [if_neg h47]; exact hcq)]
              simp only [u8_lit q 47 (n := 47) rfl, decide_eq_false h47, ruA, ruB, ruC, ruE, ruD, lenStr, Int.reduceBEq, Int.reduceBNe]
              exact one
          · rw [if_neg (by by_cases h47 : q = 47; · rw [if_pos h47]; exact h92
                           · rw [if_neg h47]; exact hcq)]
            simp only [u8_lit c 92 (n := 92) rfl, decide_eq_false h92, ruA, ruB, ruC, ruE, ruD, lenStr, Int.reduceBEq, Int.reduceBNe]
            exact one
theorem rended_ok {R : Nat → Prop} {H : Heap} {b : List UInt8} {v : Value} (hs : SlU R H b v) {a : Nat} {q : UInt8} (hq : b[a]? = some q) (hb : b.length < 9223372036854775800) :
    Cl 57 [v, .int .i64 (a : Int)] H (.int .i64 (placeI ((endedN q (if q = 47 then 92 else q) (b.drop (a + 1))).map (· + (a + 1 + 1))))) H := by
  have ha : a < b.length := (List.getElem?_eq_some_iff.1 hq).1
  refine Ev.enter (fun n => f57_eq rfl n _ _ _) ?_
  simp only [f57, ruA, ruB, ruC, ruE, ruD, lenStr, Int.reduceBEq, Int.reduceBNe, idx_up (show a < 9223372036854775807 by omega)]
  exact (rended_loop hs hq hb (b.length + 1) (a + 1) (by omega) (by omega)).loop
end Go.Eng
