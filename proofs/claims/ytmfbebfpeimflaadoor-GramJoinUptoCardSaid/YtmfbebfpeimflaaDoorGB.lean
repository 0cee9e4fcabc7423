/- Bytes, letters, the words of the language. -/
import Derived.Test.YtmfbebfpeimflaaDoorGA
import Derived.Test.YtmfbebfpeimflaaDoorWP3
import Derived.Test.YtmfbebfpeimflaaDoorEnhCC
set_option linter.unusedVariables false
set_option linter.unusedSimpArgs false
namespace Go.Eng
open Go Go.Proofs

/-- What is told of a call ahead: strings.Repeat. -/
abbrev EE : Ext := noExt
abbrev Cl (f : FuncId) (args : List Value) (H : Heap) (v : Value) (H' : Heap) : Prop := ClP Tryd.prog true EE f args H v H'
noncomputable abbrev AC (n : Nat) : CallF := acall Tryd.prog true EE n

theorem u8_lit (c k : UInt8) {n : Int} (h : (k.toNat : Int) = n) : ((c.toNat : Int) == n) = decide (c = k) := by
  subst h
  rw [Bool.eq_iff_iff]
  simp only [beq_iff_eq, decide_eq_true_eq]
  constructor
  · intro h; exact UInt8.toNat_inj.1 (by omega)
  · rintro rfl; rfl
theorem u8_two (c d : UInt8) : ((c.toNat : Int) == (d.toNat : Int)) = decide (c = d) := u8_lit c d rfl
theorem U_at {l : List UInt8} {i : Nat} {c : UInt8} (h : l[i]? = some c) : (B (U l))[i]? = some (.int .u8 (c.toNat : Int)) := by
  simp [B, U, h]
theorem U_drop (l : List UInt8) (i : Nat) : (U l).drop i = U (l.drop i) := by simp [U, List.map_drop]
theorem U_take (l : List UInt8) (i : Nat) : (U l).take i = U (l.take i) := by simp [U, List.map_take]
theorem U_append (a b : List UInt8) : U (a ++ b) = U a ++ U b := by simp [U]
theorem strOf_U (l : List UInt8) : strOf (U l) = bs l := by
  unfold strOf U bs
  congr 2
  rw [List.map_map]
  conv => rhs; rw [← List.map_id l]
  apply List.map_congr_left
  intro x _
  simp
theorem toStr_U {R : Nat → Prop} {H : Heap} {v : Value} {n : Nat} {l : List UInt8} (h : Sl R H 1 v n (B (U l))) : toStr v H = some (.string (bs l), H) := by
  rw [toStr_sl h, strOf_U]

/-! ### the place of a byte -/
theorem idx_mem : ∀ {l : List UInt8} {c : UInt8}, decide (Lib.indexByte l c ≥ 0) = decide (c ∈ l)
  | [], c => by simp [Lib.indexByte]
  | b :: l, c => by
    have ih := idx_mem (l := l) (c := c)
    have hge := Lib.indexByte_ge l c
    simp only [Lib.indexByte]
    by_cases h : b = c
    · subst h; simp
    · have h' : ¬ c = b := fun e => h e.symm
      simp only [beq_iff_eq, h, if_false, List.mem_cons, h', false_or]
      rw [← ih]
      by_cases h1 : Lib.indexByte l c = -1
      · simp [h1]
      · have e : (Lib.indexByte l c == -1) = false := by simpa using h1
        simp only [h1, if_false]
        congr 1
        apply propext
        omega
theorem byte_back (c : UInt8) : ((c.toNat : Int)).toNat.toUInt8 = c := by simp
theorem idxX_str {l : List UInt8} {c : UInt8} {H : Heap} : idxX [.string (bs l), .int .u8 (c.toNat : Int)] H = some (.int .i64 (Lib.indexByte l c), H) := by
  simp only [idxX, byte_back, bs_list]
theorem idxs85 (l : List UInt8) (c : UInt8) (H : Heap) : Cl 81 [.string (bs l), .int .u8 (c.toNat : Int)] H (.int .i64 (Lib.indexByte l c)) H :=
  ClP.extern Tryd.func81 (by kernel_rfl) (by kernel_rfl) (by kernel_rfl) idxX_str
theorem idxs76 (l : List UInt8) (c : UInt8) (H : Heap) : Cl 72 [.string (bs l), .int .u8 (c.toNat : Int)] H (.int .i64 (Lib.indexByte l c)) H := by
  refine Ev.enter (fun n => f72_eq rfl n _ _ _) ?_
  simp only [f72, ruA, ruB, ruC, ruE, ruD, lenStr, Int.reduceBEq, Int.reduceBNe]
  refine Ev.callC (idxs85 l c H) ?_
  exact Ev.pure _
theorem idxs57 (l : List UInt8) (c : UInt8) (H : Heap) : Cl 48 [.string (bs l), .int .u8 (c.toNat : Int)] H (.int .i64 (Lib.indexByte l c)) H := by
  refine Ev.enter (fun n => f48_eq rfl n _ _ _) ?_
  simp only [f48, ruA, ruB, ruC, ruE, ruD, lenStr, Int.reduceBEq, Int.reduceBNe]
  refine Ev.callC (idxs76 l c H) ?_
  exact Ev.pure _

/-! ### letters -/
theorem dig_ok (c : UInt8) (H : Heap) : Cl 52 [.int .u8 (c.toNat : Int)] H (.bool (wDig c)) H := by
  refine Ev.enter (fun n => f52_eq rfl n _ _) ?_
  by_cases h1 : 48 ≤ c.toNat
  · by_cases h2 : c.toNat ≤ 57
    · simp only [f52, ruA, ruB, ruC, ruE, ruD, lenStr, Int.reduceBEq, Int.reduceBNe, eq_true (show (48 : Int) ≤ (c.toNat : Int) by omega), eq_true (show (c.toNat : Int) ≤ 57 by omega), wDig, h1, h2, Bool.and_self]
      exact Ev.pure _
    · simp only [f52, ruA, ruB, ruC, ruE, ruD, lenStr, Int.reduceBEq, Int.reduceBNe, eq_true (show (48 : Int) ≤ (c.toNat : Int) by omega), eq_false (show ¬ (c.toNat : Int) ≤ 57 by omega), wDig, h1, h2, Bool.and_false]
      exact Ev.pure _
  · simp only [f52, ruA, ruB, ruC, ruE, ruD, lenStr, Int.reduceBEq, Int.reduceBNe, eq_false (show ¬ (48 : Int) ≤ (c.toNat : Int) by omega), wDig, h1, Bool.false_and]
    exact Ev.pure _
theorem dig_rok (c : UInt8) (H : Heap) : Cl 60 [.int .u8 (c.toNat : Int)] H (.bool (wDig c)) H := by
  refine Ev.enter (fun n => f60_eq rfl n _ _) ?_
  by_cases h1 : 48 ≤ c.toNat
  · by_cases h2 : c.toNat ≤ 57
    · simp only [f60, ruA, ruB, ruC, ruE, ruD, lenStr, Int.reduceBEq, Int.reduceBNe, eq_true (show (c.toNat : Int) ≥ 48 by omega), eq_true (show (c.toNat : Int) ≤ 57 by omega), wDig, h1, h2, Bool.and_self]
      exact Ev.pure _
    · simp only [f60, ruA, ruB, ruC, ruE, ruD, lenStr, Int.reduceBEq, Int.reduceBNe, eq_true (show (c.toNat : Int) ≥ 48 by omega), eq_false (show ¬ (c.toNat : Int) ≤ 57 by omega), wDig, h1, h2, Bool.and_false]
      exact Ev.pure _
  · simp only [f60, ruA, ruB, ruC, ruE, ruD, lenStr, Int.reduceBEq, Int.reduceBNe, eq_false (show ¬ (c.toNat : Int) ≥ 48 by omega), wDig, h1, Bool.false_and]
    exact Ev.pure _
theorem let_ok (c : UInt8) (H : Heap) : Cl 51 [.int .u8 (c.toNat : Int)] H (.bool (wLet c)) H := by
  refine Ev.enter (fun n => f51_eq rfl n _ _) ?_
  have u := u8_lit c 95 (n := 95) rfl
  by_cases h1 : 97 ≤ c.toNat ∧ c.toNat ≤ 122
  · simp only [f51, ruA, ruB, ruC, ruE, ruD, lenStr, Int.reduceBEq, Int.reduceBNe, eq_true (show (97 : Int) ≤ (c.toNat : Int) by omega), eq_true (show (c.toNat : Int) ≤ 122 by omega), wLet, h1.1, h1.2, Bool.and_self, Bool.true_or]
    exact Ev.pure _
  · have e1 : (decide (97 ≤ c.toNat) && decide (c.toNat ≤ 122)) = false := by simpa using h1
    have key : ∀ (k : Nat → Option (Value × Heap)), True := fun _ => trivial
    by_cases h2 : 65 ≤ c.toNat ∧ c.toNat ≤ 90
    · have g1 : ¬ (97 : Int) ≤ (c.toNat : Int) := by omega
      simp only [f51, ruA, ruB, ruC, ruE, ruD, lenStr, Int.reduceBEq, Int.reduceBNe, eq_false g1, eq_true (show (65 : Int) ≤ (c.toNat : Int) by omega), eq_true (show (c.toNat : Int) ≤ 90 by omega), wLet, e1, h2.1, h2.2, Bool.and_self, Bool.true_or, Bool.or_true]
      exact Ev.pure _
    · have e2 : (decide (65 ≤ c.toNat) && decide (c.toNat ≤ 90)) = false := by simpa using h2
      have e3 : wLet c = (wDig c || decide (c = 95)) := by simp only [wLet, e1, e2, Bool.false_or]
      rw [e3]
      have D := dig_ok c H
      by_cases h3 : 97 ≤ c.toNat
      · have q1 : ¬ (c.toNat : Int) ≤ 122 := by omega
        have q2 : ¬ (c.toNat : Int) ≤ 90 := by omega
        simp only [f51, ruA, ruB, ruC, ruE, ruD, lenStr, Int.reduceBEq, Int.reduceBNe, eq_true (show (97 : Int) ≤ (c.toNat : Int) by omega), eq_false q1, eq_true (show (65 : Int) ≤ (c.toNat : Int) by omega), eq_false q2]
        refine Ev.callC D ?_
        cases hd : wDig c <;> simp only [ruA, ruB, ruC, ruE, ruD, lenStr, Int.reduceBEq, Int.reduceBNe, u, Bool.true_or, Bool.false_or] <;> exact Ev.pure _
      · by_cases h4 : 65 ≤ c.toNat
        · have q2 : ¬ (c.toNat : Int) ≤ 90 := by omega
          simp only [f51, ruA, ruB, ruC, ruE, ruD, lenStr, Int.reduceBEq, Int.reduceBNe, eq_false (show ¬ (97 : Int) ≤ (c.toNat : Int) by omega), eq_true (show (65 : Int) ≤ (c.toNat : Int) by omega), eq_false q2]
          refine Ev.callC D ?_
          cases hd : wDig c <;> simp only [ruA, ruB, ruC, ruE, ruD, lenStr, Int.reduceBEq, Int.reduceBNe, u, Bool.true_or, Bool.false_or] <;> exact Ev.pure _
        · simp only [f51, ruA, ruB, ruC, ruE, ruD, lenStr, Int.reduceBEq, Int.reduceBNe, eq_false (show ¬ (97 : Int) ≤ (c.toNat : Int) by omega), eq_false (show ¬ (65 : Int) ≤ (c.toNat : Int) by omega)]
          refine Ev.callC D ?_
          cases hd : wDig c <;> simp only [ruA, ruB, ruC, ruE, ruD, lenStr, Int.reduceBEq, Int.reduceBNe, u, Bool.true_or, Bool.false_or] <;> exact Ev.pure _
theorem letters_loop {l : List UInt8} {H : Heap} (hl : l.length < 9223372036854775807) : ∀ (k i : Nat), i + k = l.length →
    Ev (fun n m => f53_L0 real (AC n) n m (.string (bs l)) (.int .i64 (l.length : Int)) (.int .i64 (i : Int)) H) (.int .i64 ((i + ((l.drop i).takeWhile wLet).length : Nat) : Int), H) := by
  intro k
  induction k with
  | zero =>
    intro i hi
    refine Ev.step (fun n m => f53_L0.eq_2 _ _ _ _ _ _ _ _) ?_
    obtain rfl : i = l.length := by omega
    rw [List.drop_eq_nil_of_le (by omega)]
    simp only [ruA, ruB, ruC, ruE, ruD, lenStr, Int.reduceBEq, Int.reduceBNe, bs_size, idx_ge (Nat.le_refl l.length), List.takeWhile_nil, List.length_nil, Nat.add_zero]
    exact Ev.pure _
  | succ k ih =>
    intro i hi
    obtain ⟨c, hc, hd⟩ := drop_at (l := l) (i := i) (by omega)
    refine Ev.step (fun n m => f53_L0.eq_2 _ _ _ _ _ _ _ _) ?_
    simp only [ruA, ruB, ruC, ruE, ruD, lenStr, Int.reduceBEq, Int.reduceBNe, idx_lt (show i < l.length by omega), bs_idx hc]
    refine Ev.callC (let_ok c H) ?_
    rw [hd]
    cases hw : wLet c with
    | true =>
      simp only [ruA, ruB, ruC, ruE, ruD, lenStr, Int.reduceBEq, Int.reduceBNe, idx_up (show i < 9223372036854775807 by omega), List.takeWhile_cons, hw, if_true, List.length_cons]
      have := ih (i + 1) (by omega)
      rw [show i + 1 + ((l.drop (i + 1)).takeWhile wLet).length = i + (((l.drop (i + 1)).takeWhile wLet).length + 1) by omega] at this
      exact this
    | false =>
      simp only [ruA, ruB, ruC, ruE, ruD, lenStr, Int.reduceBEq, Int.reduceBNe, List.takeWhile_cons, hw, Bool.false_eq_true, if_false, List.length_nil, Nat.add_zero]
      exact Ev.pure _
theorem letters_ok {l : List UInt8} (H : Heap) (hl : l.length < 9223372036854775807) : Cl 53 [.string (bs l)] H (.int .i64 (lettersN l : Int)) H := by
  refine Ev.enter (fun n => f53_eq rfl n _ _) ?_
  simp only [f53, ruA, ruB, ruC, ruE, ruD, lenStr, Int.reduceBEq, Int.reduceBNe, bs_size]
  have := (letters_loop (H := H) hl l.length 0 (by omega)).loop
  simpa [lettersN] using this

/-! ### the words of the language -/
def STRS (ss : List (List UInt8)) : List Value := ss.map fun k => .string (bs k)
abbrev LANG : List Value := STRS kws
theorem STRS_at {ss : List (List UInt8)} {i : Nat} {x : List UInt8} (h : ss[i]? = some x) : (STRS ss)[i]? = some (.string (bs x)) := by simp [STRS, h]
/-- The table stands where it was laid. -/
abbrev Lg (H : Heap) : Prop := Box (all H) H 0 LANG
theorem Box.up {H H' : Heap} {b : Nat} {cs : List Value} (h : Box (Eng.all H) H b cs) (k : Keep (Eng.all H) H H') : Box (Eng.all H') H' b cs := (h.keep k).mono (upA k)
theorem iA_ptr {n i b o : Nat} {k : IntKind} (h : i < n) : iAddrA n 1 (ptr b o) (.int k (i : Int)) = some (ptr b (o + i)) := by
  simp only [iAddrA]
  rw [if_pos (by omega)]
  simp
theorem lang_sl {H : Heap} (hL : Lg H) : slcA 9 1 (ptr 0 0) none none none = some (.slice (some ⟨0, 0, some 0⟩) 9 9) ∧ Sl (all H) H 1 (.slice (some ⟨0, 0, some 0⟩) 9 9) kws.length LANG := by
  obtain ⟨h1, s, o, h2⟩ := hL
  exact ⟨by simp [slcA, bound], .inr (.inr ⟨0, 0, some 0, 9, _, rfl, h1, h2, by simp [STRS, kws], by decide, by rfl⟩)⟩
/-- The place of a text among texts. -/
def placeI (o : Option Nat) : Int := match o with | some i => (i : Int) | none => -1
theorem idxOf_cons {x y : List UInt8} {ss : List (List UInt8)} : (y :: ss).idxOf? x = if x = y then some 0 else (ss.idxOf? x).map (· + 1) := by
  simp only [List.idxOf?, List.findIdx?_cons]
  by_cases h : x = y
  · subst h; simp
  · have : (y == x) = false := by simpa using fun e => h e.symm
    simp [this, h]
theorem index_loop {H : Heap} {R : Nat → Prop} {v : Value} {ss : List (List UInt8)} (hs : Sl R H 1 v ss.length (STRS ss)) (x : List UInt8) (hl : ss.length < 9223372036854775807) : ∀ (k i : Nat), i + k = ss.length →
    Ev (fun n m => f54_L0 real (AC n) n m v (.string (bs x)) (.int .i64 (ss.length : Int)) (.int .i64 (i : Int)) H) (.int .i64 (placeI (((ss.drop i).idxOf? x).map (· + i))), H) := by
  intro k
  induction k with
  | zero =>
    intro i hi
    refine Ev.step (fun n m => f54_L0.eq_2 _ _ _ _ _ _ _ _ _) ?_
    rw [List.drop_eq_nil_of_le (by omega)]
    simp only [ruA, ruB, ruC, ruE, ruD, lenStr, Int.reduceBEq, Int.reduceBNe, idx_ge (show ss.length ≤ i by omega)]
    exact Ev.pure _
  | succ k ih =>
    intro i hi
    obtain ⟨y, hy, hd⟩ := drop_at (l := ss) (i := i) (by omega)
    obtain ⟨p, p1, p2⟩ := hs.at1 (STRS_at hy)
    refine Ev.step (fun n m => f54_L0.eq_2 _ _ _ _ _ _ _ _ _) ?_
    rw [hd, idxOf_cons]
    by_cases h : x = y
    · rw [if_pos h]
      simp only [idx_lt (show i < ss.length by omega), p1, p2, real_b, real_i, bnd_up, bnd_some, b_lss, decide_true, iff_t, bs_eql, h]
      simpa [placeI] using Ev.pure _
    · rw [if_neg h]
      have e : decide (x = y) = false := decide_eq_false h
      simp only [idx_lt (show i < ss.length by omega), p1, p2, real_b, real_i, bnd_up, bnd_some, b_lss, decide_true, iff_t, bs_eql, e, iff_f, b_add, idx_up (show i < 9223372036854775807 by omega)]
      have := ih (i + 1) (by omega)
      rw [show (((ss.drop (i + 1)).idxOf? x).map (· + 1)).map (· + i) = ((ss.drop (i + 1)).idxOf? x).map (· + (i + 1)) by
        rw [Option.map_map]; congr 1; funext z; simp only [Function.comp]; omega]
      exact this
theorem index_ok {H : Heap} {R : Nat → Prop} {v : Value} {ss : List (List UInt8)} (hs : Sl R H 1 v ss.length (STRS ss)) (x : List UInt8) (hl : ss.length < 9223372036854775807) : Cl 54 [v, .string (bs x)] H (.int .i64 (placeI (ss.idxOf? x))) H := by
  refine Ev.enter (fun n => f54_eq rfl n _ _ _) ?_
  simp only [f54, ruA, ruB, ruC, ruE, ruD, lenStr, Int.reduceBEq, Int.reduceBNe, hs.lenS]
  have := (index_loop hs x hl ss.length 0 (by omega)).loop
  simpa using this
end Go.Eng
