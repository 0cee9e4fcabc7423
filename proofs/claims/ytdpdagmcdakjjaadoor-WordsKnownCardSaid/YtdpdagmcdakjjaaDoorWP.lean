/- The words of bytes, plainly: no program in sight. -/
set_option linter.unusedVariables false
set_option linter.unusedSimpArgs false
namespace Go.Eng

def wDig (c : UInt8) : Bool := decide (48 ≤ c.toNat) && decide (c.toNat ≤ 57)
def wLet (c : UInt8) : Bool := (decide (97 ≤ c.toNat) && decide (c.toNat ≤ 122)) || (decide (65 ≤ c.toNat) && decide (c.toNat ≤ 90)) || wDig c || decide (c = 95)
def wBlank (c : UInt8) : Bool := decide (c = 32 ∨ c = 9 ∨ c = 10 ∨ c = 13)
def wEnd (c : UInt8) : Bool := decide (c = 10 ∨ c = 13)
def wSign (c : UInt8) : Bool := decide (c = 61 ∨ c = 59 ∨ c = 58 ∨ c = 124)
/-- The words of the language. -/
def kws : List (List UInt8) := [[105, 109, 112, 111, 114, 116], [115, 116, 97, 114, 116], [116, 101, 114, 109], [115, 107, 105, 112], [108, 101, 102, 116], [114, 105, 103, 104, 116], [110, 111, 110, 101], [114, 117, 108, 101], [112, 114, 101, 99]]
def spelledN (k : Int) : List UInt8 := if 5 ≤ k ∧ k ≤ 13 then kws.getD (k - 5).toNat [] else []
def lettersN (l : List UInt8) : Nat := (l.takeWhile wLet).length
/-- Where something ends. -/
def endedN (e x : UInt8) : List UInt8 → Option Nat
  | [] => none
  | [c] => if wEnd c then none else if c = e then some 0 else none
  | c :: d :: r => if wEnd c then none else if c = e then some 0 else if c = x then (if wEnd d then none else (endedN e x r).map (· + 2)) else (endedN e x (d :: r)).map (· + 1)
def isNameN (l : List UInt8) : Bool := decide (l ≠ []) && decide (l.length ≤ 24) && !((l.head?.map wDig).getD false) && l.all wLet && !decide (l ∈ kws)
def pathC (c : UInt8) : Bool := (decide (97 ≤ c.toNat) && decide (c.toNat ≤ 122)) || wDig c || decide (c = 46 ∨ c = 95 ∨ c = 45 ∨ c = 47)
def isPathN (l : List UInt8) : Bool := decide (1 ≤ l.length) && decide (l.length ≤ 32) && l.all pathC
def isPatN (l : List UInt8) : Bool := decide (endedN 47 92 (l ++ [47]) = some l.length)
/-- A word's kind, and how many bytes it has; (0, 0): none begins here. -/
def wordN : List UInt8 → Nat × Nat
  | [] => (0, 0)
  | c :: r =>
    if wSign c then (4, 1)
    else if c = 34 then (match endedN 34 34 r with | some n => if isPathN (r.take n) then (2, n + 2) else (0, 0) | none => (0, 0))
    else if c = 47 then (match endedN 47 92 r with | some n => (3, n + 2) | none => (0, 0))
    else if wLet c && !wDig c then
      (match kws.idxOf? ((c :: r).takeWhile wLet) with | some i => (5 + i, lettersN (c :: r)) | none => if lettersN (c :: r) ≤ 24 then (1, lettersN (c :: r)) else (0, 0))
    else (0, 0)
structure Tok where
  K : Nat
  F : Nat
  T : Nat
  deriving DecidableEq
/-- The words ahead of where none begins, and where that is. -/
def cutN (at_ : Nat) : List UInt8 → List Tok × Option Nat
  | [] => ([], none)
  | c :: r =>
    if wBlank c then cutN (at_ + 1) r
    else if c = 35 then cutN (at_ + 1 + (r.takeWhile (· ≠ 10)).length) (r.dropWhile (· ≠ 10))
    else
      let w := wordN (c :: r)
      if w.1 = 0 then ([], some at_) else
        let x := cutN (at_ + w.2) (r.drop (w.2 - 1))
        (⟨w.1, at_, at_ + w.2⟩ :: x.1, x.2)
termination_by l => l.length
decreasing_by
  · simp
  · have := (List.dropWhile_suffix (fun x : UInt8 => decide (x ≠ 10)) (l := r)).length_le
    simp only [List.length_cons]; omega
  · simp only [List.length_drop, List.length_cons]; omega
theorem ended_some {e x : UInt8} : ∀ {l : List UInt8} {n : Nat}, endedN e x l = some n → n + 1 ≤ l.length ∧ l[n]? = some e ∧ ∀ s, endedN e x (l.take (n + 1) ++ s) = some n := by
  intro l
  induction l using endedN.induct e x with
  | case1 => intro n h; simp [endedN] at h
  | case2 c hc => intro n h; simp [endedN, hc] at h
  | case3 hc =>
    intro n h
    simp [endedN, hc] at h
    subst h
    refine ⟨by simp, rfl, fun s => ?_⟩
    cases s <;> simp [endedN, hc]
  | case4 c h1 h2 => intro n h; simp [endedN, h1, h2] at h
  | case5 c d r hc => intro n h; simp [endedN, hc] at h
  | case6 d r hc =>
    intro n h
    simp [endedN, hc] at h
    subst h
    refine ⟨by simp, rfl, fun s => ?_⟩
    cases s <;> simp [endedN, hc]
  | case7 d r h1 h2 h3 => intro n h; simp [endedN, h1, h2, h3] at h
  | case8 d r h1 h2 h3 ih =>
    intro n h
    simp [endedN, h1, h2, h3] at h
    obtain ⟨m, hm, rfl⟩ := h
    obtain ⟨a, b, c⟩ := ih hm
    refine ⟨by simp; omega, by simpa using b, fun s => ?_⟩
    have := c s
    simp [endedN, h1, h2, h3, this]
  | case9 c d r h1 h2 h3 ih =>
    intro n h
    simp [endedN, h1, h2, h3] at h
    obtain ⟨m, hm, rfl⟩ := h
    obtain ⟨a, b, c'⟩ := ih hm
    refine ⟨by simp at a ⊢; omega, by simpa using b, fun s => ?_⟩
    have := c' s
    simp at this
    simp [endedN, h1, h2, h3, this]
theorem takeWhile_app {α : Type} {p : α → Bool} : ∀ {l s : List α}, (s.head?.map p).getD false = false → (l.takeWhile p ++ s).takeWhile p = l.takeWhile p
  | [], s, h => by
    cases s with
    | nil => rfl
    | cons a s => simp at h; simp [h]
  | a :: l, s, h => by
    by_cases ha : p a
    · simp [ha, takeWhile_app (l := l) h]
    · simp [ha]
      cases s with
      | nil => rfl
      | cons b s => simp at h; simp [h]
theorem take_takeWhile {α : Type} {p : α → Bool} : ∀ {l : List α}, l.take (l.takeWhile p).length = l.takeWhile p
  | [] => rfl
  | a :: l => by
    by_cases ha : p a
    · simp [ha, take_takeWhile (l := l)]
    · simp [ha]
theorem drop_takeWhile {α : Type} {p : α → Bool} : ∀ {l : List α}, ((l.drop (l.takeWhile p).length).head?.map p).getD false = false
  | [] => rfl
  | a :: l => by
    by_cases ha : p a
    · simp only [List.takeWhile_cons, ha, if_true, List.length_cons, List.drop_succ_cons]; exact drop_takeWhile (l := l)
    · simp [ha]
theorem takeWhile_idem {α : Type} {p : α → Bool} : ∀ {l : List α}, (l.takeWhile p).all p = true
  | [] => rfl
  | a :: l => by
    by_cases ha : p a
    · simp [ha]
    · simp [ha]
theorem takeWhile_le {α : Type} {p : α → Bool} (l : List α) : (l.takeWhile p).length ≤ l.length := (List.takeWhile_prefix p).length_le

def wOk (k : Nat) (s : List UInt8) : Prop := k = 2 ∨ k = 3 ∨ k = 4 ∨ (s.head?.map wLet).getD false = false
theorem word_ext {l : List UInt8} (h : (wordN l).1 ≠ 0) : 1 ≤ (wordN l).2 ∧ (wordN l).2 ≤ l.length ∧ wOk (wordN l).1 (l.drop (wordN l).2) ∧ ∀ s, wOk (wordN l).1 s → wordN (l.take (wordN l).2 ++ s) = wordN l := by
  cases l with
  | nil => simp [wordN] at h
  | cons c r =>
    simp only [wordN] at h ⊢
    by_cases h1 : wSign c = true
    · simp [h1, wordN, wOk]
    · simp only [h1, Bool.false_eq_true, if_false] at h ⊢
      by_cases h2 : c = 34
      · simp only [if_pos h2] at h ⊢
        cases he : endedN 34 34 r with
        | none => simp [he] at h
        | some n =>
          simp only [he] at h ⊢
          by_cases hp : isPathN (r.take n) = true
          · simp only [if_pos hp] at h ⊢
            obtain ⟨a, b, d⟩ := ended_some he
            refine ⟨by omega, by simp; omega, by simp [wOk], fun s _ => ?_⟩
            have := d s
            have e1 : (r.take (n + 1) ++ s).take n = r.take n := by
              rw [List.take_append_of_le_length (by simp; omega), List.take_take]; congr 1; omega
            simp only [List.take_succ_cons, List.cons_append, wordN, h1, Bool.false_eq_true, if_false, if_pos h2, this, e1, if_pos hp]
          · simp [hp] at h
      · simp only [if_neg h2] at h ⊢
        by_cases h3 : c = 47
        · simp only [if_pos h3] at h ⊢
          cases he : endedN 47 92 r with
          | none => simp [he] at h
          | some n =>
            simp only [he] at h ⊢
            obtain ⟨a, b, d⟩ := ended_some he
            refine ⟨by omega, by simp; omega, by simp [wOk], fun s _ => ?_⟩
            have := d s
            simp only [List.take_succ_cons, List.cons_append, wordN, h1, Bool.false_eq_true, if_false, if_neg h2, if_pos h3, this]
        · simp only [if_neg h3] at h ⊢
          by_cases h4 : (wLet c && !wDig c) = true
          · simp only [if_pos h4] at h ⊢
            have hc : wLet c = true := by simp at h4; exact h4.1
            have ht : (c :: r).take (lettersN (c :: r)) = (c :: r).takeWhile wLet := take_takeWhile
            have hlen : 1 ≤ lettersN (c :: r) := by simp [lettersN, hc]
            have hlen' : lettersN (c :: r) ≤ (c :: r).length := takeWhile_le _
            have key : ∀ s, (s.head?.map wLet).getD false = false → ((c :: r).take (lettersN (c :: r)) ++ s).takeWhile wLet = (c :: r).takeWhile wLet ∧ ∃ r', (c :: r).take (lettersN (c :: r)) ++ s = c :: r' := by
              intro s hs
              rw [ht]
              refine ⟨takeWhile_app hs, ?_⟩
              simp [hc]
            have hd : ((((c :: r).drop (lettersN (c :: r))).head?).map wLet).getD false = false := drop_takeWhile
            cases hk : kws.idxOf? ((c :: r).takeWhile wLet) with
            | some i =>
              simp only [hk] at h ⊢
              refine ⟨hlen, hlen', .inr (.inr (.inr hd)), fun s hs => ?_⟩
              have hs : (s.head?.map wLet).getD false = false := by
                rcases hs with hs | hs | hs | hs
                · omega
                · omega
                · omega
                · exact hs
              obtain ⟨k1, r', k2⟩ := key s hs
              have k3 := k1
              rw [k2] at k3 ⊢
              simp only [wordN, h1, Bool.false_eq_true, if_false, if_neg h2, if_neg h3, if_pos h4, k3, hk, lettersN]
            | none =>
              simp only [hk] at h ⊢
              by_cases h5 : lettersN (c :: r) ≤ 24
              · simp only [if_pos h5] at h ⊢
                refine ⟨hlen, hlen', .inr (.inr (.inr hd)), fun s hs => ?_⟩
                have hs : (s.head?.map wLet).getD false = false := by
                  rcases hs with hs | hs | hs | hs
                  · omega
                  · omega
                  · omega
                  · exact hs
                obtain ⟨k1, r', k2⟩ := key s hs
                have k3 := k1
                rw [k2] at k3 ⊢
                have h5' : ((c :: r).takeWhile wLet).length ≤ 24 := h5
                simp only [wordN, h1, Bool.false_eq_true, if_false, if_neg h2, if_neg h3, if_pos h4, k3, hk, lettersN, if_pos h5']
              · simp [h5] at h
          · simp [h4] at h
/-- Two texts alike as far as a word goes, and one byte more. -/
theorem word_alike {l l' : List UInt8} (h : (wordN l).1 ≠ 0) (ht : l'.take (wordN l).2 = l.take (wordN l).2) (hd : (l'.drop (wordN l).2).head? = (l.drop (wordN l).2).head? ∨ l'.drop (wordN l).2 = []) : wordN l' = wordN l := by
  obtain ⟨_, _, h3, h4⟩ := word_ext h
  rw [← List.take_append_drop (wordN l).2 l', ht]
  refine h4 _ ?_
  rcases hd with hd | hd
  · unfold wOk at h3 ⊢
    rw [hd]; exact h3
  · rw [hd]; exact .inr (.inr (.inr rfl))
end Go.Eng
