/- Two lists of words; what may stand between; small helpers of the laws. -/
import Derived.Test.YtmfbebfpeimflaaDoorGJ
set_option linter.unusedVariables false
set_option linter.unusedSimpArgs false
set_option maxRecDepth 100000
namespace Go.Eng
open Go Go.Proofs

theorem TOKS_drop : ∀ (ts : List Tok) (i : Nat), (TOKS ts).drop (i * 3) = TOKS (ts.drop i)
  | ts, 0 => by simp
  | [], i + 1 => by simp [TOKS]
  | t :: ts, i + 1 => by
    have e : (i + 1) * 3 = i * 3 + 3 := by omega
    rw [e]
    show List.drop (i * 3 + 3) (TOK t ++ TOKS ts) = _
    simp only [TOK, List.cons_append, List.nil_append, List.drop_succ_cons]
    exact TOKS_drop ts i
/-- Words that can be read. -/
abbrev Tks (R : Nat → Prop) (H : Heap) (ts : List Tok) (v : Value) : Prop := Sl R H 3 v ts.length (TOKS ts)
theorem Tks.at {R : Nat → Prop} {H : Heap} {ts : List Tok} {v : Value} (h : Tks R H ts v) {i : Nat} {t : Tok} (ht : ts[i]? = some t) : ∃ b o, iAddrS 3 v (.int .i64 (i : Int)) = some (ptr b o) ∧ R b ∧
    ldC (ptr b o) H = some (.int .i64 (t.K : Int), H) ∧ ldA 3 (ptr b o) H = some (.agg #[.int .i64 (t.K : Int), .int .i64 (t.F : Int), .int .i64 (t.T : Int)], H) := by
  have hi := (List.getElem?_eq_some_iff.1 ht).1
  obtain ⟨b, o, h1, h2, h3, h4⟩ := Sl.atN h hi
  have hd : (TOKS ts).drop (i * 3) = TOK t ++ TOKS (ts.drop (i + 1)) := by
    rw [TOKS_drop, List.drop_eq_getElem_cons hi]
    have : ts[i] = t := by rw [List.getElem?_eq_getElem hi] at ht; simpa using ht
    rw [this]; rfl
  refine ⟨b, o, h1, h2, ?_, ?_⟩
  · refine h3 0 _ (by omega) ?_
    have : ((TOKS ts).drop (i * 3))[0]? = some (.int .i64 (t.K : Int)) := by rw [hd]; rfl
    rwa [List.getElem?_drop] at this
  · rw [h4, cut, hd]; rfl

/-- Words of small numbers. -/
def tOk (ts : List Tok) : Prop := ∀ t ∈ ts, t.K ≤ 13 ∧ t.F < t.T ∧ t.T ≤ 8192
theorem tOk_cut {b : List UInt8} (h : b.length ≤ 8192) : tOk (cutN 0 b).1 := by
  intro t ht
  obtain ⟨h1, h2, h3, h4⟩ := cut_wordIs b 0 t ht
  have := h4.facts
  exact ⟨this.2.1, h2, by omega⟩
theorem tOk_cutR (b : List UInt8) : tOk (cutR b).1 := by
  unfold cutR
  by_cases h : 8192 < b.length
  · rw [if_pos h]; intro t ht; cases ht
  · rw [if_neg h]
    have := tOk_cut (b := b) (by omega)
    unfold cutG
    cases (cutN 0 b).2 with
    | some e => intro t ht; cases ht
    | none => simpa using this
theorem cutN_len : ∀ (l : List UInt8) (a : Nat), (cutN a l).1.length ≤ l.length := by
  refine cut_ind (P := fun a l => (cutN a l).1.length ≤ l.length) ?_ ?_ ?_ ?_ ?_
  · intro a; simp [cut_nil]
  · intro a c r hb ih; rw [cut_blank hb]; simp only [List.length_cons]; omega
  · intro a r ih
    rw [cut_remark]
    have := dropWhile_le (fun x : UInt8 => decide (x ≠ 10)) r
    simp only [List.length_cons]; omega
  · intro a c r hb hr hw; rw [cut_bad hb hr hw]; simp
  · intro a c r hb hr hw ih
    rw [cut_word hb hr hw]
    have := (word_ext hw).1
    simp only [List.length_cons, List.length_drop] at *
    omega
theorem cutR_len (b : List UInt8) : (cutR b).1.length ≤ 8192 := by
  unfold cutR
  by_cases h : 8192 < b.length
  · rw [if_pos h]; simp
  · rw [if_neg h]
    have := cutN_len b 0
    unfold cutG
    cases (cutN 0 b).2 with
    | some e => simp
    | none => simp; omega
theorem inI_nat {n : Nat} (h : n ≤ 9223372036854775807) : inI (n : Int) := ⟨by omega, by omega⟩
/-! ### numbers into a range -/
def bringN (i n : Int) : Int := if n ≤ 0 then 0 else if Int.tmod i n < 0 then Int.tmod i n + n else Int.tmod i n
theorem bring_in {i n : Int} (h : 0 < n) : 0 ≤ bringN i n ∧ bringN i n < n := by
  unfold bringN
  rw [if_neg (by omega)]
  have h1 := Int.tmod_lt_of_pos i h
  have h2 := Int.lt_tmod_of_pos i h
  split <;> omega
theorem bring_ok {i n : Int} (hi : inI i) (hn : 0 ≤ n ∧ n < 9223372036854775807) (H : Heap) : Cl 15 [.int .i64 i, .int .i64 n] H (.int .i64 (bringN i n)) H := by
  refine Ev.enter (fun m => f15_eq rfl m _ _ _) ?_
  unfold bringN
  by_cases h : n ≤ 0
  · simp only [f15, ruA, ruB, ruC, ruE, ruD, lenStr, Int.reduceBEq, Int.reduceBNe, eq_true h, if_pos h]
    simp only [if_true]
    exact Ev.pure _
  · have h1 := Int.tmod_lt_of_pos i (show 0 < n by omega)
    have h2 := Int.lt_tmod_of_pos i (show 0 < n by omega)
    have hr : binB Tryd.prog .rem 3 (.int .i64 i) (.int .i64 n) = some (.int .i64 (Int.tmod i n)) := by
      have e : IntKind.i64.wrap (Int.tmod i n) = Int.tmod i n := wrap_i64 (by omega) (by omega)
      have hne : ¬ n = 0 := by omega
      first
        | simp [binB, intB, hne, e]
    rw [if_neg h]
    by_cases h0 : Int.tmod i n < 0
    · simp only [f15, ruA, ruB, ruC, ruE, ruD, lenStr, Int.reduceBEq, Int.reduceBNe, eq_false h, hr, eq_true h0, if_pos h0]
      rw [wrap_i64 (by omega) (by omega)]
      exact Ev.pure _
    · simp only [f15, ruA, ruB, ruC, ruE, ruD, lenStr, Int.reduceBEq, Int.reduceBNe, eq_false h, hr, eq_false h0, if_neg h0]
      exact Ev.pure _
end Go.Eng
