/- Files of the grammar language, plainly: no program in sight. -/
import Derived.Test.YtmfbebfpeimflaaDoorWP3
set_option linter.unusedVariables false
set_option linter.unusedSimpArgs false
namespace Go.Eng

structure Tm where
  N : List UInt8
  P : List UInt8
  S : Bool
  deriving DecidableEq
structure Pr where
  K : Int
  N : List (List UInt8)
  deriving DecidableEq
structure Al where
  S : List (List UInt8)
  P : List UInt8
  deriving DecidableEq
structure Rl where
  N : List UInt8
  A : List Al
  deriving DecidableEq
structure Fl where
  I : List (List UInt8)
  S : List UInt8
  T : List Tm
  P : List Pr
  R : List Rl
  deriving DecidableEq
def Fl.none : Fl := ⟨[], [], [], [], []⟩

/-! ### a reader -/
/-- A word: its kind, and what it says. -/
structure Wd where
  K : Nat
  s : List UInt8
structure Rd where
  l : List Wd
  bad : Bool
/-- Is the next word of a kind (a sign: that one)? -/
def isN (k : Nat) (s : List UInt8) (r : Rd) : Bool := !r.bad && (match r.l with | [] => false | t :: _ => decide (t.K = k) && (decide (k ≠ 4) || decide (t.s = s)))
def headN (r : Rd) : List UInt8 := match r.l with | [] => [] | t :: _ => t.s
def Rd.next (r : Rd) : Rd := ⟨r.l.tail, r.bad⟩
def mustN (k : Nat) (s : List UInt8) (r : Rd) : List UInt8 × Rd := if isN k s r then (headN r, r.next) else ([], ⟨r.l, true⟩)
def namesL : List Wd → List (List UInt8) × List Wd
  | [] => ([], [])
  | t :: l => if t.K = 1 then (t.s :: (namesL l).1, (namesL l).2) else ([], t :: l)
def namesN (r : Rd) : List (List UInt8) × Rd := if r.bad then ([], r) else ((namesL r.l).1, ⟨(namesL r.l).2, false⟩)
def altN (r : Rd) : Al × Rd :=
  if isN 13 [] (namesN r).2 then (⟨(namesN r).1, (mustN 1 [] (namesN r).2.next).1⟩, (mustN 1 [] (namesN r).2.next).2) else (⟨(namesN r).1, []⟩, (namesN r).2)
def altsF : Nat → Rd → List Al × Rd
  | 0, r => ([(altN r).1], (altN r).2)
  | n + 1, r => if isN 4 [124] (altN r).2 then ((altN r).1 :: (altsF n (altN r).2.next).1, (altsF n (altN r).2.next).2) else ([(altN r).1], (altN r).2)
def altsN (r : Rd) : List Al × Rd := altsF r.l.length r
def ruleN (r : Rd) : Rl × Rd :=
  (⟨(mustN 1 [] r).1, (altsN (mustN 4 [58] (mustN 1 [] r).2).2).1⟩, (altsN (mustN 4 [58] (mustN 1 [] r).2).2).2)
def termN (skip : Bool) (r : Rd) : Tm × Rd :=
  (⟨(mustN 1 [] r).1, (mustN 3 [] (mustN 4 [61] (mustN 1 [] r).2).2).1, skip⟩, (mustN 3 [] (mustN 4 [61] (mustN 1 [] r).2).2).2)
def precN (k : Nat) (r : Rd) : Pr × Rd :=
  (⟨(k : Int) - 8, (mustN 1 [] r).1 :: (namesN (mustN 1 [] r).2).1⟩, (namesN (mustN 1 [] r).2).2)
/-- What stands behind a line's first word. -/
def bodyN (k : Nat) (r : Rd) (f : Fl) : Fl × Rd :=
  if k = 5 then ({ f with I := f.I ++ [(mustN 2 [] r).1] }, (mustN 2 [] r).2)
  else if k = 6 then ({ f with S := (mustN 1 [] r).1 }, (mustN 1 [] r).2)
  else if k = 7 ∨ k = 8 then ({ f with T := f.T ++ [(termN (decide (k = 8)) r).1] }, (termN (decide (k = 8)) r).2)
  else if k = 12 then ({ f with R := f.R ++ [(ruleN r).1] }, (ruleN r).2)
  else ({ f with P := f.P ++ [(precN k r).1] }, (precN k r).2)
/-- May a line begin so? -/
def badN (k : Nat) (f : Fl) : Bool := decide (k < 5) || decide (12 < k) || (decide (k = 6) && decide (f.S ≠ []))
def lineN (t : Wd) (l : List Wd) (f : Fl) : Fl × Rd :=
  if badN t.K f then (f, ⟨t :: l, true⟩) else ((bodyN t.K ⟨l, false⟩ f).1, (mustN 4 [59] (bodyN t.K ⟨l, false⟩ f).2).2)
/-- Lines, till something is wrong. -/
def linesN : Nat → Rd → Fl → Fl × Rd
  | 0, r, f => (f, r)
  | n + 1, r, f => match r.l with
    | [] => (f, r)
    | t :: l => if r.bad then (f, r) else linesN n (lineN t l f).2 (lineN t l f).1
def saysN (b : List UInt8) (t : Tok) : List UInt8 := if t.K = 2 ∨ t.K = 3 then (b.take (t.T - 1)).drop (t.F + 1) else (b.take t.T).drop t.F
def wordsOf (b : List UInt8) (ts : List Tok) : List Wd := ts.map fun t => ⟨t.K, saysN b t⟩
/-- What words say. -/
def readN (l : List Wd) : Fl × Rd := linesN l.length ⟨l, false⟩ Fl.none
/-- Where the next word stands. -/
def placeN (ts : List Tok) (n left : Nat) : Int := match ts.drop (ts.length - left) with | t :: _ => (t.F : Int) | [] => (n : Int)
/-- What words say, or where they are refused. -/
def saidN (ts : List Tok) (n : Nat) (x : Fl × Rd) : Fl × Int × Int := if x.2.bad then (Fl.none, placeN ts n x.2.l.length, 150) else (x.1, 0, 0)
/-- What the bytes of a file say. -/
def gparse (b : List UInt8) : Fl × Int × Int :=
  if 8192 < b.length then (Fl.none, 0, 5)
  else match (cutN 0 b).2 with
    | some e => (Fl.none, (e : Int), 140)
    | none => saidN (cutN 0 b).1 b.length (readN (wordsOf b (cutN 0 b).1))
theorem gparse_ok {b : List UInt8} (h : b.length ≤ 8192) (hc : (cutN 0 b).2 = none) : gparse b = saidN (cutN 0 b).1 b.length (readN (wordsOf b (cutN 0 b).1)) := by
  unfold gparse; rw [if_neg (by omega), hc]

/-! ### it gets shorter -/
theorem next_len (r : Rd) : r.next.l.length = r.l.length - 1 := by simp [Rd.next]
theorem must_len (k : Nat) (s : List UInt8) (r : Rd) : (mustN k s r).2.l.length ≤ r.l.length := by
  unfold mustN; split <;> simp [Rd.next]
theorem namesL_len : ∀ l, (namesL l).2.length ≤ l.length
  | [] => by simp [namesL]
  | t :: l => by
    have := namesL_len l
    simp only [namesL]
    split
    · simp only [List.length_cons]; omega
    · exact Nat.le_refl _
theorem names_len (r : Rd) : (namesN r).2.l.length ≤ r.l.length := by
  unfold namesN
  split
  · exact Nat.le_refl _
  · exact namesL_len r.l
theorem alt_len (r : Rd) : (altN r).2.l.length ≤ r.l.length := by
  have h := names_len r
  unfold altN
  split
  · have := must_len 1 [] (namesN r).2.next
    rw [next_len] at this
    simp only; omega
  · exact h
theorem altsF_len : ∀ n r, (altsF n r).2.l.length ≤ r.l.length
  | 0, r => alt_len r
  | n + 1, r => by
    have h := alt_len r
    simp only [altsF]
    split
    · have := altsF_len n (altN r).2.next
      rw [next_len] at this
      simp only; omega
    · exact h
theorem alts_len (r : Rd) : (altsN r).2.l.length ≤ r.l.length := altsF_len _ r
theorem is_ne {k : Nat} {s : List UInt8} {r : Rd} (h : isN k s r = true) : ∃ t l, r = ⟨t :: l, false⟩ := by
  obtain ⟨l, bad⟩ := r
  cases l with
  | nil => simp [isN] at h
  | cons t l =>
    cases bad with
    | true => simp [isN] at h
    | false => exact ⟨t, l, rfl⟩
theorem altsF_more : ∀ (n m : Nat) (r : Rd), r.l.length ≤ n → n ≤ m → altsF m r = altsF n r := by
  intro n
  induction n with
  | zero =>
    intro m r h hm
    have h1 := alt_len r
    cases m with
    | zero => rfl
    | succ m =>
      simp only [altsF]
      rw [if_neg]
      intro hi
      obtain ⟨t, l, e⟩ := is_ne hi
      rw [e] at h1
      simp only [List.length_cons] at h1
      omega
  | succ n ih =>
    intro m r h hm
    obtain ⟨m, rfl⟩ : ∃ k, m = k + 1 := ⟨m - 1, by omega⟩
    have h1 := alt_len r
    simp only [altsF]
    split
    · rw [ih m _ (by rw [next_len]; omega) (by omega)]
    · rfl
theorem rule_len (r : Rd) : (ruleN r).2.l.length ≤ r.l.length := by
  have h1 := must_len 1 [] r
  have h2 := must_len 4 [58] (mustN 1 [] r).2
  have h3 := alts_len (mustN 4 [58] (mustN 1 [] r).2).2
  simp only [ruleN]; omega
theorem term_len (s : Bool) (r : Rd) : (termN s r).2.l.length ≤ r.l.length := by
  have h1 := must_len 1 [] r
  have h2 := must_len 4 [61] (mustN 1 [] r).2
  have h3 := must_len 3 [] (mustN 4 [61] (mustN 1 [] r).2).2
  simp only [termN]; omega
theorem prec_len (k : Nat) (r : Rd) : (precN k r).2.l.length ≤ r.l.length := by
  have h1 := must_len 1 [] r
  have h2 := names_len (mustN 1 [] r).2
  simp only [precN]; omega
theorem body_len (k : Nat) (r : Rd) (f : Fl) : (bodyN k r f).2.l.length ≤ r.l.length := by
  unfold bodyN
  split
  · exact must_len 2 [] r
  split
  · exact must_len 1 [] r
  split
  · exact term_len (decide (k = 8)) r
  split
  · exact rule_len r
  · exact prec_len k r
/-- A line is shorter, or the next word is wrong. -/
theorem line_len (t : Wd) (l : List Wd) (f : Fl) : (lineN t l f).2.l.length ≤ l.length ∨ ((lineN t l f).2.bad = true ∧ (lineN t l f).2.l = t :: l) := by
  unfold lineN
  split
  · exact .inr ⟨rfl, rfl⟩
  · left
    have h1 := body_len t.K ⟨l, false⟩ f
    have h2 := must_len 4 [59] (bodyN t.K ⟨l, false⟩ f).2
    simp only at h1 ⊢
    omega
theorem lines_bad {n : Nat} {r : Rd} {f : Fl} (h : r.bad = true) : linesN n r f = (f, r) := by
  cases n with
  | zero => rfl
  | succ n => simp only [linesN]; cases r.l <;> simp [h]
theorem lines_nil {n : Nat} {r : Rd} {f : Fl} (h : r.l = []) : linesN n r f = (f, r) := by
  cases n with
  | zero => rfl
  | succ n => simp only [linesN, h]
theorem lines_more : ∀ (n m : Nat) (r : Rd) (f : Fl), r.l.length ≤ n → n ≤ m → linesN m r f = linesN n r f := by
  intro n
  induction n with
  | zero =>
    intro m r f h hm
    have : r.l = [] := List.length_eq_zero_iff.1 (by omega)
    rw [lines_nil this, lines_nil this]
  | succ n ih =>
    intro m r f h hm
    obtain ⟨m, rfl⟩ : ∃ k, m = k + 1 := ⟨m - 1, by omega⟩
    simp only [linesN]
    cases hl : r.l with
    | nil => rfl
    | cons t l =>
      simp only
      split
      · rfl
      · rw [hl] at h
        simp only [List.length_cons] at h
        rcases line_len t l f with h1 | ⟨h1, h2⟩
        · exact ih m _ _ (by omega) (by omega)
        · rw [lines_bad h1, lines_bad h1]
theorem lines_len : ∀ (n : Nat) (r : Rd) (f : Fl), (linesN n r f).2.l.length ≤ r.l.length := by
  intro n
  induction n with
  | zero => intro r f; exact Nat.le_refl _
  | succ n ih =>
    intro r f
    simp only [linesN]
    cases hl : r.l with
    | nil => simp [hl]
    | cons t l =>
      simp only
      split
      · rw [hl]; exact Nat.le_refl _
      · have := ih (lineN t l f).2 (lineN t l f).1
        rcases line_len t l f with h1 | ⟨h1, h2⟩
        · simp only [List.length_cons]; omega
        · rw [h2] at this; exact this

/-! ### more words behind -/
def Rd.ext (r : Rd) (s : List Wd) : Rd := ⟨r.l ++ s, r.bad⟩
section
variable {s : List Wd} (hs : s ≠ [])
theorem is_ext {k : Nat} {g : List UInt8} {r : Rd} (h : r.l ≠ []) : isN k g (r.ext s) = isN k g r := by
  obtain ⟨l, b⟩ := r
  cases l with
  | nil => exact absurd rfl h
  | cons t l => rfl
theorem next_ext {r : Rd} (h : r.l ≠ []) : (r.ext s).next = r.next.ext s := by
  obtain ⟨l, b⟩ := r
  cases l with
  | nil => exact absurd rfl h
  | cons t l => rfl
theorem is_nil {k : Nat} {g : List UInt8} {r : Rd} (h : r.l = []) : isN k g r = false := by
  obtain ⟨l, b⟩ := r
  subst h
  simp [isN]
/-- What does not go past the words in front does not see those behind. -/
def Uns {α : Type} (s : List Wd) (g : Rd → α × Rd) (r : Rd) : Prop := s.length ≤ (g (r.ext s)).2.l.length → g (r.ext s) = ((g r).1, (g r).2.ext s)
include hs
theorem pos_s : 0 < s.length := List.length_pos_iff.2 hs
/-- It goes past them, or they are not seen. -/
theorem is_past {k : Nat} {g : List UInt8} {r : Rd} (h : s.length ≤ (if isN k g (r.ext s) then (r.ext s).next.l.length else s.length)) : isN k g (r.ext s) = isN k g r ∧ (isN k g r = true → (r.ext s).next = r.next.ext s) := by
  have hp := pos_s hs
  by_cases hl : r.l = []
  · rw [is_nil hl]
    refine ⟨?_, fun h => by cases h⟩
    cases hi : isN k g (r.ext s) with
    | false => rfl
    | true =>
      rw [hi, if_pos rfl, next_len] at h
      simp only [Rd.ext, hl, List.nil_append] at h
      omega
  · exact ⟨is_ext hl, fun _ => next_ext hl⟩
theorem must_ext (k : Nat) (g : List UInt8) (r : Rd) : Uns s (mustN k g) r := by
  intro h
  have hp := is_past hs (k := k) (g := g) (r := r) (by
    unfold mustN at h
    split at h
    · rename_i hi; rw [if_pos hi]; exact h
    · rename_i hi; rw [if_neg hi]; exact Nat.le_refl _)
  unfold mustN
  rw [hp.1]
  split
  · rename_i hi
    rw [hp.2 hi]
    obtain ⟨t, l, e⟩ := is_ne hi
    rw [e]; rfl
  · rfl
theorem namesL_ext : ∀ l, s.length ≤ (namesL (l ++ s)).2.length → namesL (l ++ s) = ((namesL l).1, (namesL l).2 ++ s)
  | [], h => by
    cases s with
    | nil => exact absurd rfl hs
    | cons t l =>
      simp only [List.nil_append, namesL] at h ⊢
      split
      · rename_i hk
        rw [if_pos hk] at h
        have := namesL_len l
        simp only [List.length_cons] at h
        omega
      · rfl
  | t :: l, h => by
    simp only [List.cons_append, namesL] at h ⊢
    split
    · rename_i hk
      rw [if_pos hk] at h
      rw [namesL_ext l h]
    · rfl
theorem names_ext (r : Rd) : Uns s namesN r := by
  intro h
  unfold namesN at h ⊢
  have e : (r.ext s).bad = r.bad := rfl
  rw [e] at h ⊢
  split
  · rfl
  · rename_i hb
    rw [if_neg hb] at h
    rw [show (r.ext s).l = r.l ++ s from rfl] at h ⊢
    rw [namesL_ext hs r.l h]
    rfl
theorem alt_ext (r : Rd) : Uns s altN r := by
  intro h
  have h1 : s.length ≤ (namesN (r.ext s)).2.l.length := by
    have := names_len (r.ext s)
    unfold altN at h
    split at h
    · have h2 := must_len 1 [] (namesN (r.ext s)).2.next
      rw [next_len] at h2
      simp only at h; omega
    · exact h
  have e1 := names_ext hs r h1
  have hp := is_past hs (k := 13) (g := []) (r := (namesN r).2) (by
    unfold altN at h
    rw [e1] at h
    split at h
    · rename_i hi
      rw [if_pos hi]
      exact Nat.le_trans h (must_len 1 [] _)
    · rename_i hi; rw [if_neg hi]; exact Nat.le_refl _)
  unfold altN at h ⊢
  rw [e1] at h ⊢
  rw [hp.1] at h ⊢
  split
  · rename_i hi
    rw [if_pos hi] at h
    have e2 : ((namesN r).2.ext s).next = (namesN r).2.next.ext s := hp.2 hi
    simp only [e2] at h ⊢
    rw [must_ext hs 1 [] _ h]
  · rfl
theorem altsF_ext : ∀ (n : Nat) (r : Rd), Uns s (altsF n) r
  | 0, r => by
    intro h
    simp only [altsF] at h ⊢
    rw [alt_ext hs r h]
  | n + 1, r => by
    intro h
    have h1 : s.length ≤ (altN (r.ext s)).2.l.length := by
      simp only [altsF] at h
      split at h
      · have h2 := altsF_len n (altN (r.ext s)).2.next
        rw [next_len] at h2
        simp only at h; omega
      · exact h
    have e1 := alt_ext hs r h1
    have hp := is_past hs (k := 4) (g := [124]) (r := (altN r).2) (by
      simp only [altsF] at h
      rw [e1] at h
      split at h
      · rename_i hi
        rw [if_pos hi]
        exact Nat.le_trans h (altsF_len n _)
      · rename_i hi; rw [if_neg hi]; exact Nat.le_refl _)
    simp only [altsF] at h ⊢
    rw [e1] at h ⊢
    rw [hp.1] at h ⊢
    split
    · rename_i hi
      rw [if_pos hi] at h
      have e2 : ((altN r).2.ext s).next = (altN r).2.next.ext s := hp.2 hi
      simp only [e2] at h ⊢
      rw [altsF_ext n _ h]
    · rfl
theorem alts_ext (r : Rd) : Uns s altsN r := by
  intro h
  have e : altsN r = altsF (r.ext s).l.length r := by
    unfold altsN
    rw [altsF_more r.l.length (r.ext s).l.length r (Nat.le_refl _) (by simp [Rd.ext])]
  rw [e]
  exact altsF_ext hs _ r h
theorem rule_ext (r : Rd) : Uns s ruleN r := by
  intro h
  have h3 := alts_len (mustN 4 [58] (mustN 1 [] (r.ext s)).2).2
  have h2 := must_len 4 [58] (mustN 1 [] (r.ext s)).2
  simp only [ruleN] at h ⊢
  have e1 := must_ext hs 1 [] r (by omega)
  rw [e1] at h h2 h3 ⊢
  simp only at h h2 h3 ⊢
  have e2 := must_ext hs 4 [58] (mustN 1 [] r).2 (by omega)
  rw [e2] at h h3 ⊢
  simp only at h h3 ⊢
  rw [alts_ext hs _ h]
theorem term_ext (k : Bool) (r : Rd) : Uns s (termN k) r := by
  intro h
  have h3 := must_len 3 [] (mustN 4 [61] (mustN 1 [] (r.ext s)).2).2
  have h2 := must_len 4 [61] (mustN 1 [] (r.ext s)).2
  simp only [termN] at h ⊢
  have e1 := must_ext hs 1 [] r (by omega)
  rw [e1] at h h2 h3 ⊢
  simp only at h h2 h3 ⊢
  have e2 := must_ext hs 4 [61] (mustN 1 [] r).2 (by omega)
  rw [e2] at h h3 ⊢
  simp only at h h3 ⊢
  rw [must_ext hs 3 [] _ h]
theorem prec_ext (k : Nat) (r : Rd) : Uns s (precN k) r := by
  intro h
  have h2 := names_len (mustN 1 [] (r.ext s)).2
  simp only [precN] at h ⊢
  have e1 := must_ext hs 1 [] r (by omega)
  rw [e1] at h ⊢
  simp only at h ⊢
  rw [names_ext hs _ h]
theorem body_ext (k : Nat) (f : Fl) (r : Rd) : Uns s (fun r => bodyN k r f) r := by
  intro h
  simp only [bodyN] at h ⊢
  split
  · rename_i c; rw [if_pos c] at h; rw [must_ext hs 2 [] r h]
  · rename_i c; rw [if_neg c] at h
    split
    · rename_i c; rw [if_pos c] at h; rw [must_ext hs 1 [] r h]
    · rename_i c; rw [if_neg c] at h
      split
      · rename_i c; rw [if_pos c] at h; rw [term_ext hs _ r h]
      · rename_i c; rw [if_neg c] at h
        split
        · rename_i c; rw [if_pos c] at h; rw [rule_ext hs r h]
        · rename_i c; rw [if_neg c] at h; rw [prec_ext hs k r h]
theorem line_ext (t : Wd) (l : List Wd) (f : Fl) (h : s.length ≤ (lineN t (l ++ s) f).2.l.length) : lineN t (l ++ s) f = ((lineN t l f).1, (lineN t l f).2.ext s) := by
  unfold lineN at h ⊢
  split
  · rfl
  · rename_i c
    rw [if_neg c] at h
    have h2 := must_len 4 [59] (bodyN t.K ⟨l ++ s, false⟩ f).2
    have e1 : bodyN t.K ⟨l ++ s, false⟩ f = ((bodyN t.K ⟨l, false⟩ f).1, (bodyN t.K ⟨l, false⟩ f).2.ext s) := body_ext hs t.K f ⟨l, false⟩ (by simp only [Rd.ext]; simp only at h; omega)
    rw [e1] at h ⊢
    simp only at h ⊢
    rw [must_ext hs 4 [59] _ h]
/-- Where the words behind are not touched, they are not seen. -/
theorem lines_ext : ∀ (n : Nat) (l : List Wd) (f : Fl), l.length ≤ n → (linesN (n + s.length) ⟨l ++ s, false⟩ f).2.l.length = s.length → (linesN n ⟨l, false⟩ f).2.l = [] := by
  intro n
  induction n with
  | zero =>
    intro l f hl h
    have : l = [] := List.length_eq_zero_iff.1 (by omega)
    subst this
    rfl
  | succ n ih =>
    intro l f hl h
    cases l with
    | nil => rfl
    | cons t l =>
      simp only [List.length_cons] at hl
      rw [show n + 1 + s.length = (n + s.length) + 1 by omega] at h
      simp only [linesN, List.cons_append, Bool.false_eq_true, if_false] at h ⊢
      have hle := lines_len (n + s.length) (lineN t (l ++ s) f).2 (lineN t (l ++ s) f).1
      have e := line_ext hs t l f (by omega)
      rw [e] at h
      simp only at h
      cases hb : (lineN t l f).2.bad with
      | true =>
        have hb' : ((lineN t l f).2.ext s).bad = true := hb
        rw [lines_bad hb'] at h
        rw [lines_bad hb]
        show (lineN t l f).2.l = []
        have h' : ((lineN t l f).2.l ++ s).length = s.length := h
        rw [List.length_append] at h'
        exact List.length_eq_zero_iff.1 (by omega)
      | false =>
        have hb' : (lineN t l f).2 = ⟨(lineN t l f).2.l, false⟩ := by rw [← hb]
        rw [hb'] at h ⊢
        rcases line_len t l f with h1 | ⟨h1, h2⟩
        · exact ih (lineN t l f).2.l (lineN t l f).1 (Nat.le_trans h1 (by omega)) h
        · rw [hb] at h1; cases h1
end
end Go.Eng
