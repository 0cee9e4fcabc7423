/- Words, by the reference: texts. -/
import Derived.Test.YtmfbebfpeimflaaDoorGF
set_option linter.unusedVariables false
set_option linter.unusedSimpArgs false
namespace Go.Eng
open Go Go.Proofs

theorem let_rok (c : UInt8) (H : Heap) : Cl 59 [.int .u8 (c.toNat : Int)] H (.bool (wLet c)) H := by
  refine Ev.enter (fun n => f59_eq rfl n _ _) ?_
  have u := u8_lit c 95 (n := 95) rfl
  by_cases h1 : 97 ≤ c.toNat ∧ c.toNat ≤ 122
  · simp only [f59, ruA, ruB, ruC, ruE, ruD, lenStr, Int.reduceBEq, Int.reduceBNe, eq_true (show (c.toNat : Int) ≥ 97 by omega), eq_true (show (c.toNat : Int) ≤ 122 by omega), wLet, h1.1, h1.2, Bool.and_self, Bool.true_or]
    exact Ev.pure _
  · have e1 : (decide (97 ≤ c.toNat) && decide (c.toNat ≤ 122)) = false := by simpa using h1
    by_cases h2 : 65 ≤ c.toNat ∧ c.toNat ≤ 90
    · simp only [f59, ruA, ruB, ruC, ruE, ruD, lenStr, Int.reduceBEq, Int.reduceBNe, eq_false (show ¬ (c.toNat : Int) ≥ 97 by omega), eq_true (show (c.toNat : Int) ≥ 65 by omega), eq_true (show (c.toNat : Int) ≤ 90 by omega), wLet, e1, h2.1, h2.2, Bool.and_self, Bool.true_or, Bool.or_true]
      exact Ev.pure _
    · have e2 : (decide (65 ≤ c.toNat) && decide (c.toNat ≤ 90)) = false := by simpa using h2
      have e3 : wLet c = (wDig c || decide (c = 95)) := by simp only [wLet, e1, e2, Bool.false_or]
      rw [e3]
      by_cases h3 : 97 ≤ c.toNat
      · have e4 : wDig c = false := by simp only [wDig]; simp; omega
        simp only [f59, ruA, ruB, ruC, ruE, ruD, lenStr, Int.reduceBEq, Int.reduceBNe, eq_true (show (c.toNat : Int) ≥ 97 by omega), eq_false (show ¬ (c.toNat : Int) ≤ 122 by omega), eq_true (show (c.toNat : Int) ≥ 65 by omega), eq_false (show ¬ (c.toNat : Int) ≤ 90 by omega), eq_true (show (c.toNat : Int) ≥ 48 by omega), eq_false (show ¬ (c.toNat : Int) ≤ 57 by omega), u, e4, Bool.false_or]
        exact Ev.pure _
      · by_cases h4 : 65 ≤ c.toNat
        · have e4 : wDig c = false := by simp only [wDig]; simp; omega
          simp only [f59, ruA, ruB, ruC, ruE, ruD, lenStr, Int.reduceBEq, Int.reduceBNe, eq_false (show ¬ (c.toNat : Int) ≥ 97 by omega), eq_true (show (c.toNat : Int) ≥ 65 by omega), eq_false (show ¬ (c.toNat : Int) ≤ 90 by omega), eq_true (show (c.toNat : Int) ≥ 48 by omega), eq_false (show ¬ (c.toNat : Int) ≤ 57 by omega), u, e4, Bool.false_or]
          exact Ev.pure _
        · by_cases h5 : 48 ≤ c.toNat
          · by_cases h6 : c.toNat ≤ 57
            · have e4 : wDig c = true := by simp only [wDig]; simp; omega
              simp only [f59, ruA, ruB, ruC, ruE, ruD, lenStr, Int.reduceBEq, Int.reduceBNe, eq_false (show ¬ (c.toNat : Int) ≥ 97 by omega), eq_false (show ¬ (c.toNat : Int) ≥ 65 by omega), eq_true (show (c.toNat : Int) ≥ 48 by omega), eq_true (show (c.toNat : Int) ≤ 57 by omega), e4, Bool.true_or]
              exact Ev.pure _
            · have e4 : wDig c = false := by simp only [wDig]; simp; omega
              simp only [f59, ruA, ruB, ruC, ruE, ruD, lenStr, Int.reduceBEq, Int.reduceBNe, eq_false (show ¬ (c.toNat : Int) ≥ 97 by omega), eq_false (show ¬ (c.toNat : Int) ≥ 65 by omega), eq_true (show (c.toNat : Int) ≥ 48 by omega), eq_false (show ¬ (c.toNat : Int) ≤ 57 by omega), u, e4, Bool.false_or]
              exact Ev.pure _
          · have e4 : wDig c = false := by simp only [wDig]; simp; omega
            simp only [f59, ruA, ruB, ruC, ruE, ruD, lenStr, Int.reduceBEq, Int.reduceBNe, eq_false (show ¬ (c.toNat : Int) ≥ 97 by omega), eq_false (show ¬ (c.toNat : Int) ≥ 65 by omega), eq_false (show ¬ (c.toNat : Int) ≥ 48 by omega), u, e4, Bool.false_or]
            exact Ev.pure _
theorem spelled_rok (k : Int) (H : Heap) : Cl 77 [.int .i64 k] H (.string (bs (spelledN k))) H := by
  refine Ev.enter (fun n => f77_eq rfl n _ _) ?_
  by_cases h : 5 ≤ k ∧ k ≤ 13
  · have : k = 5 ∨ k = 6 ∨ k = 7 ∨ k = 8 ∨ k = 9 ∨ k = 10 ∨ k = 11 ∨ k = 12 ∨ k = 13 := by omega
    rcases this with rfl | rfl | rfl | rfl | rfl | rfl | rfl | rfl | rfl <;> (simp only [f77, ruA, ruB, ruC, ruE, ruD, lenStr, Int.reduceBEq, Int.reduceBNe]; exact Ev.pure _)
  · have e : spelledN k = [] := by unfold spelledN; rw [if_neg h]
    rw [e]
    have d : ∀ j : Int, 5 ≤ j → j ≤ 13 → (k == j) = false := fun j h1 h2 => by simp; omega
    simp only [f77, ruA, ruB, ruC, ruE, ruD, lenStr, Int.reduceBEq, Int.reduceBNe, d 5 (by decide) (by decide), d 6 (by decide) (by decide), d 7 (by decide) (by decide), d 8 (by decide) (by decide), d 9 (by decide) (by decide), d 10 (by decide) (by decide), d 11 (by decide) (by decide), d 12 (by decide) (by decide), d 13 (by decide) (by decide)]
    exact Ev.pure _
def kindN (l : List UInt8) : Int := match kws.idxOf? l with | some i => 5 + (i : Int) | none => if 24 < l.length then 0 else 1
theorem kind_loop {l : List UInt8} {H : Heap} : ∀ (k i : Nat), i + k = 9 →
    Ev (fun n m => f61_L0 real (AC n) n m (.string (bs l)) (.int .i64 ((5 + i : Nat) : Int)) H) (.int .i64 (match (kws.drop i).idxOf? l with | some j => ((5 + i + j : Nat) : Int) | none => if 24 < l.length then 0 else 1), H) := by
  intro k
  induction k with
  | zero =>
    intro i hi
    obtain rfl : i = 9 := by omega
    refine Ev.step (fun n m => f61_L0.eq_2 _ _ _ _ _ _ _) ?_
    have e : kws.drop 9 = [] := rfl
    rw [e]
    by_cases h : 24 < l.length
    · simp only [ruA, ruB, ruC, ruE, ruD, lenStr, Int.reduceBEq, Int.reduceBNe, eq_false (show ¬ ((5 + 9 : Nat) : Int) ≤ 13 by decide), bs_size, eq_true (show (l.length : Int) > 24 by omega), List.idxOf?_nil, if_pos h]
      exact Ev.pure _
    · simp only [ruA, ruB, ruC, ruE, ruD, lenStr, Int.reduceBEq, Int.reduceBNe, eq_false (show ¬ ((5 + 9 : Nat) : Int) ≤ 13 by decide), bs_size, eq_false (show ¬ (l.length : Int) > 24 by omega), List.idxOf?_nil, if_neg h]
      exact Ev.pure _
  | succ k ih =>
    intro i hi
    obtain ⟨x, hx, hd⟩ := drop_at (l := kws) (i := i) (by simp [kws]; omega)
    have esp : spelledN ((5 + i : Nat) : Int) = x := by
      unfold spelledN
      rw [if_pos (by omega), show (((5 + i : Nat) : Int) - 5).toNat = i by omega, List.getD_eq_getElem?_getD, hx]; rfl
    have S := spelled_rok ((5 + i : Nat) : Int) H
    rw [esp] at S
    refine Ev.step (fun n m => f61_L0.eq_2 _ _ _ _ _ _ _) ?_
    rw [hd, idxOf_cons]
    simp only [real_b, real_i, bnd_up, bnd_some, b_leq, eq_true (show ((5 + i : Nat) : Int) ≤ 13 by omega), decide_true, iff_t]
    refine Ev.callC S ?_
    by_cases h : l = x
    · rw [if_pos h]
      simp only [bnd_up, bs_eql, decide_eq_true h, iff_t]
      exact Ev.pure _
    · rw [if_neg h]
      simp only [bnd_up, bs_eql, decide_eq_false h, iff_f, b_add, idx_up (show 5 + i < 9223372036854775807 by omega)]
      have := ih (i + 1) (by omega)
      rw [show 5 + (i + 1) = 5 + i + 1 by omega] at this
      cases hj : (kws.drop (i + 1)).idxOf? l with
      | none => rw [hj] at this; exact this
      | some j =>
        rw [hj] at this
        simp only [Option.map_some]
        rw [show 5 + i + (j + 1) = 5 + i + 1 + j by omega]
        exact this
theorem kind_ok (l : List UInt8) (H : Heap) : Cl 61 [.string (bs l)] H (.int .i64 (kindN l)) H := by
  refine Ev.enter (fun n => f61_eq rfl n _ _) ?_
  have := (kind_loop (l := l) (H := H) 9 0 rfl).loop
  simp only [f61]
  have e : kindN l = (match (kws.drop 0).idxOf? l with | some j => ((5 + 0 + j : Nat) : Int) | none => if 24 < l.length then 0 else 1) := by
    unfold kindN
    rw [List.drop_zero]
    cases kws.idxOf? l with
    | none => rfl
    | some i => simp
  rw [e]
  exact this
theorem kind_one (l : List UInt8) : (kindN l != 1) = !(decide (l.length ≤ 24) && !decide (l ∈ kws)) := by
  unfold kindN
  cases h : kws.idxOf? l with
  | some i =>
    have hm : l ∈ kws := List.mem_of_getElem? (idxOf_mem h).2
    have : (5 + (i : Int) != 1) = true := by simp; omega
    simp only [this, hm, decide_true, Bool.not_true, Bool.and_false, Bool.not_false]
  | none =>
    have hm : l ∉ kws := idxOf_not h
    by_cases h24 : 24 < l.length
    · have : ¬ l.length ≤ 24 := by omega
      simp [hm, h24, this]
    · have : l.length ≤ 24 := by omega
      simp [hm, h24, this]
theorem paths_loop {l : List UInt8} {H : Heap} (hl : l.length < 9223372036854775807) : ∀ (k i : Nat), i + k = l.length →
    Ev (fun n m => f58_L0 real (AC n) n m (.string (bs l)) (.int .i64 (i : Int)) H) (.bool (decide (1 ≤ l.length) && decide (l.length ≤ 32) && (l.drop i).all pathC), H) := by
  intro k
  induction k with
  | zero =>
    intro i hi
    obtain rfl : i = l.length := by omega
    refine Ev.step (fun n m => f58_L0.eq_2 _ _ _ _ _ _ _) ?_
    rw [List.drop_length]
    by_cases h1 : 1 ≤ l.length
    · by_cases h2 : l.length ≤ 32
      · simp only [ruA, ruB, ruC, ruE, ruD, lenStr, Int.reduceBEq, Int.reduceBNe, bs_size, idx_ge (Nat.le_refl l.length), eq_true (show (l.length : Int) ≥ 1 by omega), eq_true (show (l.length : Int) ≤ 32 by omega), List.all_nil, h1, h2, Bool.and_self]
        exact Ev.pure _
      · simp only [ruA, ruB, ruC, ruE, ruD, lenStr, Int.reduceBEq, Int.reduceBNe, bs_size, idx_ge (Nat.le_refl l.length), eq_true (show (l.length : Int) ≥ 1 by omega), eq_false (show ¬ (l.length : Int) ≤ 32 by omega), List.all_nil, h1, h2, Bool.and_false, Bool.false_and]
        exact Ev.pure _
    · simp only [ruA, ruB, ruC, ruE, ruD, lenStr, Int.reduceBEq, Int.reduceBNe, bs_size, idx_ge (Nat.le_refl l.length), eq_false (show ¬ (l.length : Int) ≥ 1 by omega), List.all_nil, h1, Bool.false_and]
      exact Ev.pure _
  | succ k ih =>
    intro i hi
    obtain ⟨c, hc, hd⟩ := drop_at (l := l) (i := i) (by omega)
    have hi' := ih (i + 1) (by omega)
    have u1 := u8_lit c 46 (n := 46) rfl
    have u2 := u8_lit c 95 (n := 95) rfl
    have u3 := u8_lit c 45 (n := 45) rfl
    have u4 := u8_lit c 47 (n := 47) rfl
    have hup := idx_up (show i < 9223372036854775807 by omega)
    refine Ev.step (fun n m => f58_L0.eq_2 _ _ _ _ _ _ _) ?_
    rw [hd, List.all_cons]
    simp only [ruA, ruB, ruC, ruE, ruD, lenStr, Int.reduceBEq, Int.reduceBNe, bs_size, idx_lt (show i < l.length by omega), bs_idx hc]
    by_cases h1 : 97 ≤ c.toNat ∧ c.toNat ≤ 122
    · have e : pathC c = true := by simp [pathC, h1.1, h1.2]
      simp only [ruA, ruB, ruC, ruE, ruD, lenStr, Int.reduceBEq, Int.reduceBNe, eq_true (show (c.toNat : Int) ≥ 97 by omega), eq_true (show (c.toNat : Int) ≤ 122 by omega), e, Bool.true_and, hup]
      exact hi'
    · have e1 : (decide (97 ≤ c.toNat) && decide (c.toNat ≤ 122)) = false := by simpa using h1
      have e2 : pathC c = (wDig c || (decide (c = 46) || decide (c = 95) || decide (c = 45) || decide (c = 47))) := by
        simp only [pathC, e1, Bool.false_or]
        congr 1
        simp only [Bool.decide_or, Bool.or_assoc]
      -- behind the letters
      have rest : ∀ (b : Bool), wDig c = b → Ev (fun n m => (if b then (fun (X : Value → Heap → Option (Value × Heap)) => X (.bool true) H) else fun X => X (.bool (decide (c = 46) || decide (c = 95) || decide (c = 45) || decide (c = 47))) H) (fun v G => iff (match v with | .bool b => .bool (!b) | v => v) (some (.bool false, G)) (f58_L0 real (AC n) n m (.string (bs l)) (.int .i64 ((i + 1 : Nat) : Int)) G))) (.bool (decide (1 ≤ l.length) && decide (l.length ≤ 32) && (pathC c && (l.drop (i + 1)).all pathC)), H) := by
        intro b hb
        rw [e2, hb]
        cases b with
        | true => simpa [iff_f] using hi'
        | false =>
          simp only [Bool.false_eq_true, if_false, Bool.false_or]
          cases hq : (decide (c = 46) || decide (c = 95) || decide (c = 45) || decide (c = 47)) with
          | true => simpa [iff_f] using hi'
          | false => simpa [iff_t] using Ev.pure _
      have D := dig_rok c H
      have fin : ∀ {b : Bool}, wDig c = b → Ev (fun n m => iff (.bool (!(b || (decide (c = 46) || decide (c = 95) || decide (c = 45) || decide (c = 47))))) (some (.bool false, H)) (f58_L0 real (AC n) n m (.string (bs l)) (.int .i64 ((i + 1 : Nat) : Int)) H)) (.bool (decide (1 ≤ l.length) && decide (l.length ≤ 32) && (pathC c && (l.drop (i + 1)).all pathC)), H) := by
        intro b hb
        rw [e2, hb]
        cases hq : (b || (decide (c = 46) || decide (c = 95) || decide (c = 45) || decide (c = 47))) with
        | true => simpa [iff_f] using hi'
        | false => simpa [iff_t] using Ev.pure _
      have go : Ev (fun n m => bnd (AC n 60 [.int .u8 (c.toNat : Int)] H) fun v G => bnd (pickV (.bool false) (.bool true) v G) fun v1 G =>
          bnd (gd (wd v1 false) (some (.int .u8 (c.toNat : Int), G)) G) fun y1 G => bnd (gd (wd v1 false) (up (binB Tryd.prog .eql 5 y1 (.int .u8 46)) G) G) fun z1 G => bnd (pickV v1 (.bool true) z1 G) fun v2 G =>
          bnd (gd (wd v2 false) (some (.int .u8 (c.toNat : Int), G)) G) fun y1 G => bnd (gd (wd v2 false) (up (binB Tryd.prog .eql 5 y1 (.int .u8 95)) G) G) fun z1 G => bnd (pickV v2 (.bool true) z1 G) fun v3 G =>
          bnd (gd (wd v3 false) (some (.int .u8 (c.toNat : Int), G)) G) fun y1 G => bnd (gd (wd v3 false) (up (binB Tryd.prog .eql 5 y1 (.int .u8 45)) G) G) fun z1 G => bnd (pickV v3 (.bool true) z1 G) fun v4 G =>
          bnd (gd (wd v4 false) (some (.int .u8 (c.toNat : Int), G)) G) fun y1 G => bnd (gd (wd v4 false) (up (binB Tryd.prog .eql 5 y1 (.int .u8 47)) G) G) fun z1 G => bnd (pickV v4 (.bool true) z1 G) fun v5 G =>
          bnd (up (unB .not v5) G) fun v6 G => iff v6 (some (.bool false, G)) (bnd (up (binB Tryd.prog .add 3 (.int .i64 (i : Int)) (.int .i64 1)) G) fun j G => f58_L0 real (AC n) n m (.string (bs l)) j G)) (.bool (decide (1 ≤ l.length) && decide (l.length ≤ 32) && (pathC c && (l.drop (i + 1)).all pathC)), H) := by
        refine Ev.callC D ?_
        have F := fin (b := wDig c) rfl
        cases hd2 : wDig c with
        | true =>
          rw [hd2] at F
          simp only [ruA, ruB, ruC, ruE, ruD, lenStr, Int.reduceBEq, Int.reduceBNe, hup, Bool.true_or] at F ⊢
          exact F
        | false =>
          rw [hd2] at F
          cases q1 : decide (c = 46) with
          | true =>
            rw [q1] at F
            simp only [ruA, ruB, ruC, ruE, ruD, lenStr, Int.reduceBEq, Int.reduceBNe, hup, u1, q1, Bool.true_or, Bool.or_true] at F ⊢
            exact F
          | false =>
            cases q2 : decide (c = 95) with
            | true =>
              rw [q1, q2] at F
              simp only [ruA, ruB, ruC, ruE, ruD, lenStr, Int.reduceBEq, Int.reduceBNe, hup, u1, u2, q1, q2, Bool.true_or, Bool.or_true, Bool.false_or] at F ⊢
              exact F
            | false =>
              cases q3 : decide (c = 45) with
              | true =>
                rw [q1, q2, q3] at F
                simp only [ruA, ruB, ruC, ruE, ruD, lenStr, Int.reduceBEq, Int.reduceBNe, hup, u1, u2, u3, q1, q2, q3, Bool.true_or, Bool.or_true, Bool.false_or] at F ⊢
                exact F
              | false =>
                cases q4 : decide (c = 47) with
                | true =>
                  rw [q1, q2, q3, q4] at F
                  simp only [ruA, ruB, ruC, ruE, ruD, lenStr, Int.reduceBEq, Int.reduceBNe, hup, u1, u2, u3, u4, q1, q2, q3, q4, Bool.true_or, Bool.or_true, Bool.false_or] at F ⊢
                  exact F
                | false =>
                  rw [q1, q2, q3, q4] at F
                  simp only [ruA, ruB, ruC, ruE, ruD, lenStr, Int.reduceBEq, Int.reduceBNe, hup, u1, u2, u3, u4, q1, q2, q3, q4, Bool.true_or, Bool.or_true, Bool.false_or] at F ⊢
                  exact F
      by_cases h3 : 97 ≤ c.toNat
      · simp only [ruA, ruB, ruC, ruE, ruD, lenStr, Int.reduceBEq, Int.reduceBNe, eq_true (show (c.toNat : Int) ≥ 97 by omega), eq_false (show ¬ (c.toNat : Int) ≤ 122 by omega)]
        exact go
      · simp only [ruA, ruB, ruC, ruE, ruD, lenStr, Int.reduceBEq, Int.reduceBNe, eq_false (show ¬ (c.toNat : Int) ≥ 97 by omega)]
        exact go
theorem path_rok {l : List UInt8} (H : Heap) (hl : l.length < 9223372036854775807) : Cl 58 [.string (bs l)] H (.bool (isPathN l)) H := by
  refine Ev.enter (fun n => f58_eq rfl n _ _) ?_
  have := (paths_loop (H := H) hl l.length 0 (by omega)).loop
  simp only [f58]
  simpa [isPathN] using this
end Go.Eng
