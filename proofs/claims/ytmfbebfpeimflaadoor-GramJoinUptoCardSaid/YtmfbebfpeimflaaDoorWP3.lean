/- The words of bytes, plainly: no program in sight. -/
set_option linter.unusedVariables false
set_option linter.unusedSimpArgs false
namespace Go.Eng

def wDig (c : UInt8) : Bool := decide (48 ≤ c.toNat) && decide (c.toNat ≤ 57)
def wLet (c : UInt8) : Bool := (decide (97 ≤ c.toNat) && decide (c.toNat ≤ 122)) || (decide (65 ≤ c.toNat) && decide (c.toNat ≤ 90)) || wDig c || decide (c = 95)
def wBlank (c : UInt8) : Bool := decide (c = 32 ∨ c = 9 ∨ c = 10 ∨ c = 13)
def wEnd (c : UInt8) : Bool := decide (c = 10 ∨ c = 13)
def wSign (c : UInt8) : Bool := decide (c = 61 ∨ c = 59 ∨ c = 58 ∨ c = 124)
/-- The words of the language. -/
def kws : List (List UInt8) := [[105, 109, 112, 111, 114, 116], [115, 116, 97, 114, 116], [116, 101, 114, 109], [115, 107, 105, 112], [108, 101, 102, 116], [114, 105, 103, 104, 116], [110, 111, 110, 101], [114, 117, 108, 101], [112, 114, 101, 99]]
def spelledN (k : Int) : List UInt8 := if 5 ≤ k ∧ k ≤ 13 then kws.getD (k - 5).toNat [] else []
def lettersN (l : List UInt8) : Nat := (l.takeWhile wLet).length
/-- Where something ends. -/
def endedN (e x : UInt8) : List UInt8 → Option Nat
  | [] => none
  | [c] => if wEnd c then none else if c = e then some 0 else none
  | c :: d :: r => if wEnd c then none else if c = e then some 0 else if c = x then (if wEnd d then none else (endedN e x r).map (· + 2)) else (endedN e x (d :: r)).map (· + 1)
def isNameN (l : List UInt8) : Bool := decide (l ≠ []) && decide (l.length ≤ 24) && !((l.head?.map wDig).getD false) && l.all wLet && !decide (l ∈ kws)
def pathC (c : UInt8) : Bool := (decide (97 ≤ c.toNat) && decide (c.toNat ≤ 122)) || wDig c || decide (c = 46 ∨ c = 95 ∨ c = 45 ∨ c = 47)
def isPathN (l : List UInt8) : Bool := decide (1 ≤ l.length) && decide (l.length ≤ 32) && l.all pathC
def isPatN (l : List UInt8) : Bool := decide (endedN 47 92 (l ++ [47]) = some l.length)
/-- A word's kind, and how many bytes it has; (0, 0): none begins here. -/
def wordN : List UInt8 → Nat × Nat
  | [] => (0, 0)
  | c :: r =>
    if wSign c then (4, 1)
    else if c = 34 then (match endedN 34 34 r with | some n => if isPathN (r.take n) then (2, n + 2) else (0, 0) | none => (0, 0))
    else if c = 47 then (match endedN 47 92 r with | some n => (3, n + 2) | none => (0, 0))
    else if wLet c && !wDig c then
      (match kws.idxOf? ((c :: r).takeWhile wLet) with | some i => (5 + i, lettersN (c :: r)) | none => if lettersN (c :: r) ≤ 24 then (1, lettersN (c :: r)) else (0, 0))
    else (0, 0)
structure Tok where
  K : Nat
  F : Nat
  T : Nat
  deriving DecidableEq
/-- The words ahead of where none begins, and where that is. -/
def cutN (at_ : Nat) : List UInt8 → List Tok × Option Nat
  | [] => ([], none)
  | c :: r =>
    if wBlank c then cutN (at_ + 1) r
    else if c = 35 then cutN (at_ + 1 + (r.takeWhile (· ≠ 10)).length) (r.dropWhile (· ≠ 10))
    else
      let w := wordN (c :: r)
      if w.1 = 0 then ([], some at_) else
        let x := cutN (at_ + w.2) (r.drop (w.2 - 1))
        (⟨w.1, at_, at_ + w.2⟩ :: x.1, x.2)
termination_by l => l.length
decreasing_by
  · simp
  · have := (List.dropWhile_suffix (fun x : UInt8 => decide (x ≠ 10)) (l := r)).length_le
    simp only [List.length_cons]; omega
  · simp only [List.length_drop, List.length_cons]; omega
theorem ended_some {e x : UInt8} : ∀ {l : List UInt8} {n : Nat}, endedN e x l = some n → n + 1 ≤ l.length ∧ l[n]? = some e ∧ ∀ s, endedN e x (l.take (n + 1) ++ s) = some n := by
  intro l
  induction l using endedN.induct e x with
  | case1 => intro n h; simp [endedN] at h
  | case2 c hc => intro n h; simp [endedN, hc] at h
  | case3 hc =>
    intro n h
    simp [endedN, hc] at h
    subst h
    refine ⟨by simp, rfl, fun s => ?_⟩
    cases s <;> simp [endedN, hc]
  | case4 c h1 h2 => intro n h; simp [endedN, h1, h2] at h
  | case5 c d r hc => intro n h; simp [endedN, hc] at h
  | case6 d r hc =>
    intro n h
    simp [endedN, hc] at h
    subst h
    refine ⟨by simp, rfl, fun s => ?_⟩
    cases s <;> simp [endedN, hc]
  | case7 d r h1 h2 h3 => intro n h; simp [endedN, h1, h2, h3] at h
  | case8 d r h1 h2 h3 ih =>
    intro n h
    simp [endedN, h1, h2, h3] at h
    obtain ⟨m, hm, rfl⟩ := h
    obtain ⟨a, b, c⟩ := ih hm
    refine ⟨by simp; omega, by simpa using b, fun s => ?_⟩
    have := c s
    simp [endedN, h1, h2, h3, this]
  | case9 c d r h1 h2 h3 ih =>
    intro n h
    simp [endedN, h1, h2, h3] at h
    obtain ⟨m, hm, rfl⟩ := h
    obtain ⟨a, b, c'⟩ := ih hm
    refine ⟨by simp at a ⊢; omega, by simpa using b, fun s => ?_⟩
    have := c' s
    simp at this
    simp [endedN, h1, h2, h3, this]
theorem takeWhile_app {α : Type} {p : α → Bool} : ∀ {l s : List α}, (s.head?.map p).getD false = false → (l.takeWhile p ++ s).takeWhile p = l.takeWhile p
  | [], s, h => by
    cases s with
    | nil => rfl
    | cons a s => simp at h; simp [h]
  | a :: l, s, h => by
    by_cases ha : p a
    · simp [ha, takeWhile_app (l := l) h]
    · simp [ha]
      cases s with
      | nil => rfl
      | cons b s => simp at h; simp [h]
theorem take_takeWhile {α : Type} {p : α → Bool} : ∀ {l : List α}, l.take (l.takeWhile p).length = l.takeWhile p
  | [] => rfl
  | a :: l => by
    by_cases ha : p a
    · simp [ha, take_takeWhile (l := l)]
    · simp [ha]
theorem drop_takeWhile {α : Type} {p : α → Bool} : ∀ {l : List α}, ((l.drop (l.takeWhile p).length).head?.map p).getD false = false
  | [] => rfl
  | a :: l => by
    by_cases ha : p a
    · simp only [List.takeWhile_cons, ha, if_true, List.length_cons, List.drop_succ_cons]; exact drop_takeWhile (l := l)
    · simp [ha]
theorem takeWhile_idem {α : Type} {p : α → Bool} : ∀ {l : List α}, (l.takeWhile p).all p = true
  | [] => rfl
  | a :: l => by
    by_cases ha : p a
    · simp [ha]
    · simp [ha]
theorem takeWhile_le {α : Type} {p : α → Bool} (l : List α) : (l.takeWhile p).length ≤ l.length := (List.takeWhile_prefix p).length_le

def wOk (k : Nat) (s : List UInt8) : Prop := k = 2 ∨ k = 3 ∨ k = 4 ∨ (s.head?.map wLet).getD false = false
theorem word_ext {l : List UInt8} (h : (wordN l).1 ≠ 0) : 1 ≤ (wordN l).2 ∧ (wordN l).2 ≤ l.length ∧ wOk (wordN l).1 (l.drop (wordN l).2) ∧ ∀ s, wOk (wordN l).1 s → wordN (l.take (wordN l).2 ++ s) = wordN l := by
  cases l with
  | nil => simp [wordN] at h
  | cons c r =>
    simp only [wordN] at h ⊢
    by_cases h1 : wSign c = true
    · simp [h1, wordN, wOk]
    · simp only [h1, Bool.false_eq_true, if_false] at h ⊢
      by_cases h2 : c = 34
      · simp only [if_pos h2] at h ⊢
        cases he : endedN 34 34 r with
        | none => simp [he] at h
        | some n =>
          simp only [he] at h ⊢
          by_cases hp : isPathN (r.take n) = true
          · simp only [if_pos hp] at h ⊢
            obtain ⟨a, b, d⟩ := ended_some he
            refine ⟨by omega, by simp; omega, by simp [wOk], fun s _ => ?_⟩
            have := d s
            have e1 : (r.take (n + 1) ++ s).take n = r.take n := by
              rw [List.take_append_of_le_length (by simp; omega), List.take_take]; congr 1; omega
            simp only [List.take_succ_cons, List.cons_append, wordN, h1, Bool.false_eq_true, if_false, if_pos h2, this, e1, if_pos hp]
          · simp [hp] at h
      · simp only [if_neg h2] at h ⊢
        by_cases h3 : c = 47
        · simp only [if_pos h3] at h ⊢
          cases he : endedN 47 92 r with
          | none => simp [he] at h
          | some n =>
            simp only [he] at h ⊢
            obtain ⟨a, b, d⟩ := ended_some he
            refine ⟨by omega, by simp; omega, by simp [wOk], fun s _ => ?_⟩
            have := d s
            simp only [List.take_succ_cons, List.cons_append, wordN, h1, Bool.false_eq_true, if_false, if_neg h2, if_pos h3, this]
        · simp only [if_neg h3] at h ⊢
          by_cases h4 : (wLet c && !wDig c) = true
          · simp only [if_pos h4] at h ⊢
            have hc : wLet c = true := by simp at h4; exact h4.1
            have ht : (c :: r).take (lettersN (c :: r)) = (c :: r).takeWhile wLet := take_takeWhile
            have hlen : 1 ≤ lettersN (c :: r) := by simp [lettersN, hc]
            have hlen' : lettersN (c :: r) ≤ (c :: r).length := takeWhile_le _
            have key : ∀ s, (s.head?.map wLet).getD false = false → ((c :: r).take (lettersN (c :: r)) ++ s).takeWhile wLet = (c :: r).takeWhile wLet ∧ ∃ r', (c :: r).take (lettersN (c :: r)) ++ s = c :: r' := by
              intro s hs
              rw [ht]
              refine ⟨takeWhile_app hs, ?_⟩
              simp [hc]
            have hd : ((((c :: r).drop (lettersN (c :: r))).head?).map wLet).getD false = false := drop_takeWhile
            cases hk : kws.idxOf? ((c :: r).takeWhile wLet) with
            | some i =>
              simp only [hk] at h ⊢
              refine ⟨hlen, hlen', .inr (.inr (.inr hd)), fun s hs => ?_⟩
              have hs : (s.head?.map wLet).getD false = false := by
                rcases hs with hs | hs | hs | hs
                · omega
                · omega
                · omega
                · exact hs
              obtain ⟨k1, r', k2⟩ := key s hs
              have k3 := k1
              rw [k2] at k3 ⊢
              simp only [wordN, h1, Bool.false_eq_true, if_false, if_neg h2, if_neg h3, if_pos h4, k3, hk, lettersN]
            | none =>
              simp only [hk] at h ⊢
              by_cases h5 : lettersN (c :: r) ≤ 24
              · simp only [if_pos h5] at h ⊢
                refine ⟨hlen, hlen', .inr (.inr (.inr hd)), fun s hs => ?_⟩
                have hs : (s.head?.map wLet).getD false = false := by
                  rcases hs with hs | hs | hs | hs
                  · omega
                  · omega
                  · omega
                  · exact hs
                obtain ⟨k1, r', k2⟩ := key s hs
                have k3 := k1
                rw [k2] at k3 ⊢
                have h5' : ((c :: r).takeWhile wLet).length ≤ 24 := h5
                simp only [wordN, h1, Bool.false_eq_true, if_false, if_neg h2, if_neg h3, if_pos h4, k3, hk, lettersN, if_pos h5']
              · simp [h5] at h
          · simp [h4] at h
/-- Two texts alike as far as a word goes, and one byte more. -/
theorem word_alike {l l' : List UInt8} (h : (wordN l).1 ≠ 0) (ht : l'.take (wordN l).2 = l.take (wordN l).2) (hd : (l'.drop (wordN l).2).head? = (l.drop (wordN l).2).head? ∨ l'.drop (wordN l).2 = []) : wordN l' = wordN l := by
  obtain ⟨_, _, h3, h4⟩ := word_ext h
  rw [← List.take_append_drop (wordN l).2 l', ht]
  refine h4 _ ?_
  rcases hd with hd | hd
  · unfold wOk at h3 ⊢
    rw [hd]; exact h3
  · rw [hd]; exact .inr (.inr (.inr rfl))
end Go.Eng

/- The words of bytes: what the chapter says of them. -/
set_option linter.unusedVariables false
set_option linter.unusedSimpArgs false
namespace Go.Eng

theorem cut_nil {a : Nat} : cutN a [] = ([], none) := by simp [cutN]
theorem cut_blank {a : Nat} {c : UInt8} {r : List UInt8} (h : wBlank c = true) : cutN a (c :: r) = cutN (a + 1) r := by
  rw [cutN]; simp [h]
theorem cut_remark {a : Nat} {r : List UInt8} : cutN a (35 :: r) = cutN (a + 1 + (r.takeWhile (· ≠ 10)).length) (r.dropWhile (· ≠ 10)) := by
  rw [cutN]; simp [show wBlank 35 = false from rfl]
theorem cut_bad {a : Nat} {c : UInt8} {r : List UInt8} (h : wBlank c = false) (h' : c ≠ 35) (hw : (wordN (c :: r)).1 = 0) : cutN a (c :: r) = ([], some a) := by
  rw [cutN]; simp [h, h', hw]
theorem cut_word {a : Nat} {c : UInt8} {r : List UInt8} (h : wBlank c = false) (h' : c ≠ 35) (hw : (wordN (c :: r)).1 ≠ 0) :
    cutN a (c :: r) = (⟨(wordN (c :: r)).1, a, a + (wordN (c :: r)).2⟩ :: (cutN (a + (wordN (c :: r)).2) ((c :: r).drop (wordN (c :: r)).2)).1, (cutN (a + (wordN (c :: r)).2) ((c :: r).drop (wordN (c :: r)).2)).2) := by
  have hn := (word_ext hw).1
  have e : r.drop ((wordN (c :: r)).2 - 1) = (c :: r).drop (wordN (c :: r)).2 := by
    obtain ⟨k, hk⟩ : ∃ k, (wordN (c :: r)).2 = k + 1 := ⟨(wordN (c :: r)).2 - 1, by omega⟩
    rw [hk]; simp
  rw [cutN]; simp [h, h', hw, e]

/-- An induction along the words. -/
theorem cut_ind {P : Nat → List UInt8 → Prop} (h0 : ∀ a, P a [])
    (h1 : ∀ a c r, wBlank c = true → P (a + 1) r → P a (c :: r))
    (h2 : ∀ a r, P (a + 1 + (r.takeWhile (· ≠ 10)).length) (r.dropWhile (· ≠ 10)) → P a (35 :: r))
    (h3 : ∀ a c r, wBlank c = false → c ≠ 35 → (wordN (c :: r)).1 = 0 → P a (c :: r))
    (h4 : ∀ a c r, wBlank c = false → c ≠ 35 → (wordN (c :: r)).1 ≠ 0 → P (a + (wordN (c :: r)).2) ((c :: r).drop (wordN (c :: r)).2) → P a (c :: r)) : ∀ l a, P a l := by
  intro l
  induction hl : l.length using Nat.strongRecOn generalizing l with
  | _ n ih =>
    intro a
    cases l with
    | nil => exact h0 a
    | cons c r =>
      subst hl
      by_cases hb : wBlank c = true
      · exact h1 a c r hb (ih r.length (by simp) r rfl _)
      · have hb : wBlank c = false := by simpa using hb
        by_cases hr : c = 35
        · subst hr
          refine h2 a r (ih _ ?_ _ rfl _)
          have := (List.dropWhile_suffix (fun x : UInt8 => decide (x ≠ 10)) (l := r)).length_le
          simp only [List.length_cons]; omega
        · by_cases hw : (wordN (c :: r)).1 = 0
          · exact h3 a c r hb hr hw
          · refine h4 a c r hb hr hw (ih _ ?_ _ rfl _)
            have := (word_ext hw).1
            simp only [List.length_drop, List.length_cons]; omega

/-- Where words stand does not matter to what they are. -/
def shiftT (d : Nat) (t : Tok) : Tok := ⟨t.K, t.F + d, t.T + d⟩
theorem cut_shift : ∀ (l : List UInt8) (a d : Nat), cutN (a + d) l = ((cutN a l).1.map (shiftT d), (cutN a l).2.map (· + d)) := by
  intro l
  refine cut_ind (P := fun a l => ∀ d, cutN (a + d) l = ((cutN a l).1.map (shiftT d), (cutN a l).2.map (· + d))) ?_ ?_ ?_ ?_ ?_ l
  · intro a d; simp [cut_nil]
  · intro a c r hb ih d
    rw [cut_blank hb, cut_blank hb, ← ih d]; congr 1; omega
  · intro a r ih d
    rw [cut_remark, cut_remark, ← ih d]; congr 1; omega
  · intro a c r hb hr hw d
    rw [cut_bad hb hr hw, cut_bad hb hr hw]; simp
  · intro a c r hb hr hw ih d
    have := ih d
    rw [cut_word hb hr hw, cut_word hb hr hw]
    rw [show a + d + (wordN (c :: r)).2 = a + (wordN (c :: r)).2 + d by omega, this]
    simp [shiftT]
theorem cut_from (l : List UInt8) (a : Nat) : cutN a l = ((cutN 0 l).1.map (shiftT a), (cutN 0 l).2.map (· + a)) := by
  have := cut_shift l 0 a
  simpa using this

/-! ### the bytes ahead -/
theorem dropWhile_len {α : Type} (p : α → Bool) (l : List α) : (l.takeWhile p).length + (l.dropWhile p).length = l.length := by
  rw [← List.length_append, List.takeWhile_append_dropWhile]
theorem take_dropWhile {α : Type} {p : α → Bool} : ∀ {l : List α} {m : Nat}, (l.takeWhile p).length ≤ m → (l.take m).takeWhile p = l.takeWhile p ∧ (l.take m).dropWhile p = (l.dropWhile p).take (m - (l.takeWhile p).length)
  | [], m, h => by simp
  | a :: l, m, h => by
    by_cases ha : p a
    · simp only [List.takeWhile_cons, ha, if_true, List.length_cons] at h
      obtain ⟨k, rfl⟩ : ∃ k, m = k + 1 := ⟨m - 1, by omega⟩
      obtain ⟨h1, h2⟩ := take_dropWhile (p := p) (l := l) (m := k) (by omega)
      simp [ha, h1, h2]
    · cases m with
      | zero => simp [ha]
      | succ m => simp [ha]
theorem cut_ahead : ∀ (l : List UInt8) (a : Nat) (e : Nat), (cutN a l).2 = some e → a ≤ e ∧ e < a + l.length ∧ cutN a (l.take (e - a)) = ((cutN a l).1, none) := by
  refine cut_ind (P := fun a l => ∀ e, (cutN a l).2 = some e → a ≤ e ∧ e < a + l.length ∧ cutN a (l.take (e - a)) = ((cutN a l).1, none)) ?_ ?_ ?_ ?_ ?_
  · intro a e h; simp [cut_nil] at h
  · intro a c r hb ih e h
    rw [cut_blank hb] at h ⊢
    obtain ⟨h1, h2, h3⟩ := ih e h
    refine ⟨by omega, by simp; omega, ?_⟩
    rw [show e - a = (e - (a + 1)) + 1 by omega, List.take_succ_cons, cut_blank hb, h3]
  · intro a r ih e h
    rw [cut_remark] at h ⊢
    obtain ⟨h1, h2, h3⟩ := ih e h
    have hl := dropWhile_len (fun x : UInt8 => decide (x ≠ 10)) r
    obtain ⟨q1, q2⟩ := take_dropWhile (p := fun x : UInt8 => decide (x ≠ 10)) (l := r) (m := e - (a + 1)) (by omega)
    refine ⟨by omega, by simp; omega, ?_⟩
    rw [show e - a = (e - (a + 1)) + 1 by omega, List.take_succ_cons, cut_remark, q1, q2, ← h3]
    congr 2; omega
  · intro a c r hb hr hw e h
    rw [cut_bad hb hr hw] at h ⊢
    simp at h; subst h
    exact ⟨Nat.le_refl _, by simp, by simp [cut_nil]⟩
  · intro a c r hb hr hw ih e h
    rw [cut_word hb hr hw] at h ⊢
    obtain ⟨h1, h2, h3⟩ := ih e h
    obtain ⟨w1, w2, _, _⟩ := word_ext hw
    simp only [List.length_drop] at h2
    refine ⟨by omega, by omega, ?_⟩
    have e1 : (c :: r).take (e - a) = c :: r.take (e - a - 1) := by
      rw [show e - a = (e - a - 1) + 1 by omega, List.take_succ_cons]; rfl
    have hal : wordN ((c :: r).take (e - a)) = wordN (c :: r) := by
      refine word_alike hw ?_ ?_
      · rw [List.take_take]; congr 1; omega
      · rw [List.drop_take]
        rcases Nat.eq_zero_or_pos (e - a - (wordN (c :: r)).2) with h0 | h0
        · right; rw [h0]; simp
        · left
          rw [List.head?_take]; rw [if_neg (by omega)]
    have hd : ((c :: r).take (e - a)).drop (wordN (c :: r)).2 = ((c :: r).drop (wordN (c :: r)).2).take (e - (a + (wordN (c :: r)).2)) := by
      rw [List.drop_take]; congr 1; omega
    rw [e1] at hal hd ⊢
    rw [cut_word hb hr (by rw [hal]; exact hw), hal, hd, h3]

/-! ### between words -/
/-- May that stand between words? In a remark, or not. -/
def btwN : Bool → List UInt8 → Option Bool
  | m, [] => some m
  | m, c :: r =>
    let m' := if c = 10 then false else if c = 35 then true else m
    if m' = false ∧ wBlank c = false then none else btwN m' r
theorem btw_app : ∀ (l : List UInt8) (m : Bool) (s : List UInt8), btwN m (l ++ s) = (btwN m l).bind fun m' => btwN m' s
  | [], m, s => rfl
  | c :: l, m, s => by
    simp only [List.cons_append, btwN]
    generalize (if c = 10 then false else if c = 35 then true else m) = m'
    by_cases h : m' = false ∧ wBlank c = false
    · rw [if_pos h, if_pos h]; rfl
    · rw [if_neg h, if_neg h]; exact btw_app l _ s
theorem btw_in : ∀ {l : List UInt8}, l.all (fun x => decide (x ≠ 10)) = true → btwN true l = some true
  | [], _ => rfl
  | c :: l, h => by
    simp only [List.all_cons, Bool.and_eq_true, decide_eq_true_eq] at h
    simp only [btwN, if_neg h.1]
    have : (if c = 35 then true else true) = true := by split <;> rfl
    rw [this]
    simp only [Bool.true_eq_false, false_and, if_false]
    exact btw_in h.2
theorem btw_blank {m : Bool} {c : UInt8} (h : wBlank c = true) (hm : m = true → c = 10) : btwN m [c] = some false := by
  have h35 : c ≠ 35 := by rintro rfl; cases h
  cases m with
  | false =>
    simp only [btwN, if_neg h35]
    by_cases h10 : c = 10
    · simp [h10, h, btwN]; rfl
    · simp [h10, h, btwN]
  | true =>
    have := hm rfl
    subst this
    simp [btwN, h]
/-- The state in which a word may begin. -/
def headOk (m : Bool) (l : List UInt8) : Prop := m = true → l = [] ∨ l.head? = some 10
theorem headOk_false {l : List UInt8} : headOk false l := fun h => by cases h

/-- Words stand in order; between them there is what may stand there. `fr`: where the last one ended; `g`: what has stood there since. -/
def OrdN (l : List UInt8) (e : Nat) : Nat → List Tok → Prop
  | fr, [] => fr ≤ e ∧ (btwN false ((l.take e).drop fr)).isSome = true
  | fr, t :: ts => 1 ≤ t.K ∧ t.K ≤ 13 ∧ fr ≤ t.F ∧ t.F < t.T ∧ t.T ≤ e ∧ (btwN false ((l.take t.F).drop fr)).isSome = true ∧ OrdN l e t.T ts
theorem word_kind {l : List UInt8} : (wordN l).1 ≤ 13 := by
  cases l with
  | nil => simp [wordN]
  | cons c r =>
    simp only [wordN]
    split
    · simp
    · split
      · split
        · split <;> simp
        · simp
      · split
        · split <;> simp
        · split
          · split
            · rename_i i hi
              have : i < kws.length := by
                rw [List.idxOf?] at hi
                exact (List.findIdx?_eq_some_iff_getElem.1 hi).1
              simp [kws] at this ⊢
              omega
            · split <;> simp
          · simp
theorem order_gen : ∀ (l : List UInt8) (a : Nat) (p g : List UInt8) (m : Bool) (fr : Nat), p.length + g.length = a → fr = p.length → btwN false g = some m → headOk m l →
    OrdN (p ++ g ++ l) ((cutN a l).2.getD (a + l.length)) fr (cutN a l).1 := by
  refine cut_ind (P := fun a l => ∀ (p g : List UInt8) (m : Bool) (fr : Nat), p.length + g.length = a → fr = p.length → btwN false g = some m → headOk m l →
    OrdN (p ++ g ++ l) ((cutN a l).2.getD (a + l.length)) fr (cutN a l).1) ?_ ?_ ?_ ?_ ?_
  · intro a p g m fr ha hf hg hm
    simp only [cut_nil, OrdN, Option.getD_none, List.length_nil, Nat.add_zero, List.append_nil]
    refine ⟨by omega, ?_⟩
    rw [List.take_of_length_le (by simp; omega), hf, List.drop_left, hg]; rfl
  · intro a c r hb ih p g m fr ha hf hg hm
    have h1 : btwN false (g ++ [c]) = some false := by
      rw [btw_app, hg]
      refine btw_blank hb fun h => ?_
      rcases hm h with h | h
      · cases h
      · simpa using h
    have := ih p (g ++ [c]) false fr (by simp; omega) hf h1 headOk_false
    rw [cut_blank hb]
    rw [show a + (c :: r).length = a + 1 + r.length by simp; omega]
    simpa using this
  · intro a r ih p g m fr ha hf hg hm
    have hm' : m = false := by
      cases m with
      | false => rfl
      | true => rcases hm rfl with h | h <;> simp at h
    subst hm'
    have hsplit := List.takeWhile_append_dropWhile (p := fun x : UInt8 => decide (x ≠ 10)) (l := r)
    have h1 : btwN false (g ++ 35 :: r.takeWhile (fun x => decide (x ≠ 10))) = some true := by
      rw [btw_app, hg]
      simp only [Option.bind_some, btwN]
      exact btw_in takeWhile_idem
    have h2 : headOk true (r.dropWhile (fun x => decide (x ≠ 10))) := fun _ => by
      cases hd : r.dropWhile (fun x => decide (x ≠ 10)) with
      | nil => exact .inl rfl
      | cons x xs =>
        right
        have := List.head?_dropWhile_not (fun x : UInt8 => decide (x ≠ 10)) r
        rw [hd] at this
        simpa using this
    have := ih p (g ++ 35 :: r.takeWhile (fun x => decide (x ≠ 10))) true fr (by simp; omega) hf h1 h2
    rw [cut_remark]
    have hl := dropWhile_len (fun x : UInt8 => decide (x ≠ 10)) r
    rw [show a + (35 :: r).length = a + 1 + (r.takeWhile (fun x => decide (x ≠ 10))).length + (r.dropWhile (fun x => decide (x ≠ 10))).length by simp only [List.length_cons]; omega]
    have e : p ++ (g ++ 35 :: r.takeWhile (fun x => decide (x ≠ 10))) ++ r.dropWhile (fun x => decide (x ≠ 10)) = p ++ g ++ 35 :: r := by
      conv => rhs; rw [← hsplit]
      simp
    rw [e] at this
    exact this
  · intro a c r hb hr hw p g m fr ha hf hg hm
    rw [cut_bad hb hr hw]
    simp only [OrdN, Option.getD_some]
    refine ⟨by omega, ?_⟩
    rw [List.take_append_of_le_length (by simp; omega), List.take_of_length_le (by simp; omega), hf, List.drop_left, hg]; rfl
  · intro a c r hb hr hw ih p g m fr ha hf hg hm
    obtain ⟨w1, w2, _, _⟩ := word_ext hw
    have hk := word_kind (l := c :: r)
    have := ih (p ++ g ++ (c :: r).take (wordN (c :: r)).2) [] false (a + (wordN (c :: r)).2) (by simp only [List.length_append, List.length_take, List.length_nil]; omega) (by simp only [List.length_append, List.length_take]; omega) rfl headOk_false
    rw [List.append_nil, List.append_assoc (p ++ g), List.take_append_drop] at this
    rw [cut_word hb hr hw]
    have e1 : a + (wordN (c :: r)).2 + ((c :: r).drop (wordN (c :: r)).2).length = a + (c :: r).length := by simp only [List.length_drop]; omega
    rw [e1] at this
    refine ⟨by simp only; omega, by simp only; omega, by simp only; omega, by simp only; omega, ?_, ?_, this⟩
    · have h2 := (show ∀ (l : List UInt8) (a e : Nat), (cutN a l).2 = some e → a ≤ e from fun l a e h => (cut_ahead l a e h).1)
      simp only
      cases he : (cutN (a + (wordN (c :: r)).2) ((c :: r).drop (wordN (c :: r)).2)).2 with
      | none => simp only [Option.getD_none]; omega
      | some e => simp only [Option.getD_some]; exact h2 _ _ _ he
    · simp only
      rw [List.take_append_of_le_length (by simp; omega), List.take_of_length_le (by simp; omega), hf, List.drop_left, hg]; rfl
/-- The stage's theorem. -/
theorem order_law (l : List UInt8) : OrdN l ((cutN 0 l).2.getD l.length) 0 (cutN 0 l).1 := by
  have := order_gen l 0 [] [] false 0 rfl rfl rfl headOk_false
  simpa using this
end Go.Eng

/- The words of bytes: each alone, one behind the other, and what is put between. -/
set_option linter.unusedVariables false
set_option linter.unusedSimpArgs false
namespace Go.Eng

theorem takeWhile_all {α : Type} {p : α → Bool} : ∀ {l : List α}, l.all p = true → l.takeWhile p = l
  | [], _ => rfl
  | a :: l, h => by
    rw [List.all_cons, Bool.and_eq_true] at h
    rw [List.takeWhile_cons, if_pos h.1, takeWhile_all h.2]
/-- A text that is just one word. -/
def WordIs (own : List UInt8) (k : Nat) : Prop := ∃ c r, own = c :: r ∧ wBlank c = false ∧ c ≠ 35 ∧ wordN own = (k, own.length) ∧ k ≠ 0
theorem WordIs.cut {own : List UInt8} {k : Nat} (h : WordIs own k) (a : Nat) : cutN a own = ([⟨k, a, a + own.length⟩], none) := by
  obtain ⟨c, r, rfl, h1, h2, h3, h4⟩ := h
  rw [cut_word h1 h2 (by rw [h3]; exact h4), h3]
  simp [cut_nil]
theorem WordIs.app {own : List UInt8} {k : Nat} (h : WordIs own k) {s : List UInt8} (hs : (s.head?.map wLet).getD false = false) (a : Nat) :
    cutN a (own ++ s) = (⟨k, a, a + own.length⟩ :: (cutN (a + own.length) s).1, (cutN (a + own.length) s).2) := by
  obtain ⟨c, r, rfl, h1, h2, h3, h4⟩ := h
  have hw : (wordN (c :: r)).1 ≠ 0 := by rw [h3]; exact h4
  have := (word_ext hw).2.2.2 s (.inr (.inr (.inr hs)))
  rw [h3] at this
  simp only [List.take_length] at this
  have hw' : (wordN (c :: (r ++ s))).1 ≠ 0 := by rw [← List.cons_append, this]; exact h4
  rw [List.cons_append, cut_word h1 h2 hw']
  rw [← List.cons_append, this]
  simp only [List.drop_left]
theorem cut_wordIs : ∀ (l : List UInt8) (a : Nat), ∀ t ∈ (cutN a l).1, a ≤ t.F ∧ t.F < t.T ∧ t.T ≤ a + l.length ∧ WordIs ((l.drop (t.F - a)).take (t.T - t.F)) t.K := by
  refine cut_ind (P := fun a l => ∀ t ∈ (cutN a l).1, a ≤ t.F ∧ t.F < t.T ∧ t.T ≤ a + l.length ∧ WordIs ((l.drop (t.F - a)).take (t.T - t.F)) t.K) ?_ ?_ ?_ ?_ ?_
  · intro a t h; simp [cut_nil] at h
  · intro a c r hb ih t h
    rw [cut_blank hb] at h
    obtain ⟨h1, h2, h3, h4⟩ := ih t h
    refine ⟨by omega, h2, by simp; omega, ?_⟩
    rw [show t.F - a = (t.F - (a + 1)) + 1 by omega]
    simpa using h4
  · intro a r ih t h
    rw [cut_remark] at h
    obtain ⟨h1, h2, h3, h4⟩ := ih t h
    have hl := dropWhile_len (fun x : UInt8 => decide (x ≠ 10)) r
    refine ⟨by omega, h2, by simp; omega, ?_⟩
    have e : (35 :: r).drop (t.F - a) = (r.dropWhile (fun x => decide (x ≠ 10))).drop (t.F - (a + 1 + (r.takeWhile (fun x => decide (x ≠ 10))).length)) := by
      rw [show t.F - a = (t.F - a - 1) + 1 by omega, List.drop_succ_cons]
      conv => lhs; rw [← List.takeWhile_append_dropWhile (p := fun x : UInt8 => decide (x ≠ 10)) (l := r)]
      rw [List.drop_append, List.drop_eq_nil_of_le (by omega), List.nil_append]
      congr 1; omega
    rw [e]; exact h4
  · intro a c r hb hr hw t h
    rw [cut_bad hb hr hw] at h; simp at h
  · intro a c r hb hr hw ih t h
    rw [cut_word hb hr hw] at h
    obtain ⟨w1, w2, w3, w4⟩ := word_ext hw
    rcases List.mem_cons.1 h with rfl | h
    · refine ⟨Nat.le_refl _, by simp only; omega, by simp only; omega, ?_⟩
      simp only [Nat.sub_self, List.drop_zero, Nat.add_sub_cancel_left]
      obtain ⟨n, hn⟩ : ∃ n, (wordN (c :: r)).2 = n + 1 := ⟨(wordN (c :: r)).2 - 1, by omega⟩
      have := w4 [] (.inr (.inr (.inr rfl)))
      rw [List.append_nil] at this
      refine ⟨c, r.take n, by rw [hn, List.take_succ_cons], hb, hr, ?_, hw⟩
      rw [this, List.length_take, Nat.min_eq_left w2]
    · obtain ⟨h1, h2, h3, h4⟩ := ih t h
      simp only [List.length_drop] at h3
      refine ⟨by omega, h2, by omega, ?_⟩
      rw [List.drop_drop] at h4
      rw [show t.F - a = (wordN (c :: r)).2 + (t.F - (a + (wordN (c :: r)).2)) by omega]
      exact h4
/-- What a word may be. -/
theorem idxOf_mem {x : List UInt8} {i : Nat} (h : kws.idxOf? x = some i) : i < kws.length ∧ kws[i]? = some x := by
  rw [List.idxOf?] at h
  obtain ⟨h1, h2, _⟩ := List.findIdx?_eq_some_iff_getElem.1 h
  exact ⟨h1, by rw [List.getElem?_eq_getElem h1]; simpa using h2⟩
theorem idxOf_not {x : List UInt8} (h : kws.idxOf? x = none) : x ∉ kws := by
  rw [List.idxOf?, List.findIdx?_eq_none_iff] at h
  intro hm
  have := h x hm
  simp at this
theorem WordIs.facts {own : List UInt8} {k : Nat} (h : WordIs own k) : 1 ≤ k ∧ k ≤ 13 ∧ (k = 1 → isNameN own = true) ∧ (k = 2 → 2 < own.length ∧ isPathN ((own.take (own.length - 1)).drop 1) = true) ∧
    (k = 3 → 1 < own.length ∧ isPatN ((own.take (own.length - 1)).drop 1) = true) ∧ (k = 4 → own.length = 1) ∧ (5 ≤ k → spelledN k = own ∧ isNameN own = false) := by
  obtain ⟨c, r, rfl, h1, h2, h3, h4⟩ := h
  simp only [wordN] at h3
  by_cases s1 : wSign c = true
  · simp only [if_pos s1, Prod.mk.injEq] at h3
    obtain ⟨rfl, h3⟩ := h3
    exact ⟨by simp, by simp, by simp, by simp, by simp, fun _ => h3.symm, by simp⟩
  · simp only [s1, Bool.false_eq_true, if_false] at h3
    by_cases s2 : c = 34
    · simp only [if_pos s2] at h3
      cases he : endedN 34 34 r with
      | none => simp [he] at h3
      | some n =>
        simp only [he] at h3
        by_cases hp : isPathN (r.take n) = true
        · simp only [if_pos hp, Prod.mk.injEq, List.length_cons] at h3
          obtain ⟨rfl, h3⟩ := h3
          have hn : 1 ≤ (r.take n).length := by
            simp only [isPathN, Bool.and_eq_true, decide_eq_true_eq] at hp
            exact hp.1.1
          simp only [List.length_take] at hn
          refine ⟨by simp, by simp, by simp, fun _ => ⟨by simp; omega, ?_⟩, by simp, by simp, by simp⟩
          rw [show (c :: r).length - 1 = n + 1 by simp; omega, List.take_succ_cons]
          exact hp
        · simp [hp] at h3
    · simp only [if_neg s2] at h3
      by_cases s3 : c = 47
      · simp only [if_pos s3] at h3
        cases he : endedN 47 92 r with
        | none => simp [he] at h3
        | some n =>
          simp only [he, Prod.mk.injEq, List.length_cons] at h3
          obtain ⟨rfl, h3⟩ := h3
          refine ⟨by simp, by simp, by simp, by simp, fun _ => ⟨by simp; omega, ?_⟩, by simp, by simp⟩
          rw [show (c :: r).length - 1 = n + 1 by simp; omega, List.take_succ_cons]
          obtain ⟨e1, e2, e3⟩ := ended_some he
          have e4 : r.take n ++ [47] = r := by
            have : r = r.take n ++ r.drop n := (List.take_append_drop n r).symm
            conv => rhs; rw [this]
            congr 1
            rw [List.drop_eq_getElem_cons (by omega : n < r.length)]
            have e5 : r[n] = 47 := by
              rw [List.getElem?_eq_getElem (by omega)] at e2
              simpa using e2
            rw [e5, List.drop_eq_nil_of_le (by omega)]
          simp only [isPatN, List.drop_succ_cons, List.drop_zero, e4, he]
          simp
          omega
      · simp only [if_neg s3] at h3
        by_cases s4 : (wLet c && !wDig c) = true
        · simp only [if_pos s4] at h3
          cases hk : kws.idxOf? ((c :: r).takeWhile wLet) with
          | some i =>
            simp only [hk, Prod.mk.injEq] at h3
            obtain ⟨rfl, h3⟩ := h3
            have hall : (c :: r).takeWhile wLet = c :: r := by
              have := take_takeWhile (p := wLet) (l := c :: r)
              rw [← this]
              show List.take (lettersN (c :: r)) _ = _
              rw [h3, List.take_length]
            rw [hall] at hk
            obtain ⟨i1, i2⟩ := idxOf_mem hk
            simp only [kws, List.length_cons, List.length_nil] at i1
            refine ⟨by omega, by omega, by omega, by omega, by omega, by omega, fun _ => ⟨?_, ?_⟩⟩
            · unfold spelledN
              rw [if_pos (by omega), show (((5 + i : Nat) : Int) - 5).toNat = i by omega, List.getD_eq_getElem?_getD, i2]; rfl
            · have : (c :: r) ∈ kws := List.mem_of_getElem? i2
              simp [isNameN, this]
          | none =>
            simp only [hk] at h3
            by_cases s5 : lettersN (c :: r) ≤ 24
            · simp only [if_pos s5, Prod.mk.injEq] at h3
              obtain ⟨rfl, h3⟩ := h3
              have hall : (c :: r).takeWhile wLet = c :: r := by
                have := take_takeWhile (p := wLet) (l := c :: r)
                rw [← this]
                show List.take (lettersN (c :: r)) _ = _
                rw [h3, List.take_length]
              rw [hall] at hk
              refine ⟨by simp, by simp, fun _ => ?_, by simp, by simp, by simp, by simp⟩
              have a1 : (c :: r).all wLet = true := by
                have := takeWhile_idem (p := wLet) (l := c :: r)
                rw [hall] at this; exact this
              have a2 := idxOf_not hk
              simp only [Bool.and_eq_true, Bool.not_eq_true'] at s4
              have a3 : (c :: r).length ≤ 24 := by rw [← h3]; exact s5
              simp only [isNameN, a1, List.head?_cons, Option.map_some, Option.getD_some, s4.2]
              simp [a2] at a3 ⊢; exact a3
            · simp [s5] at h3
        · simp [s4] at h3

/-! ### what words are made of -/
theorem name_is {s : List UInt8} (h : isNameN s = true) : WordIs s 1 := by
  simp only [isNameN, Bool.and_eq_true, decide_eq_true_eq, Bool.not_eq_true', decide_eq_false_iff_not] at h
  obtain ⟨⟨⟨⟨h1, h2⟩, h3⟩, h4⟩, h5⟩ := h
  cases s with
  | nil => exact absurd rfl h1
  | cons c r =>
    simp only [List.head?_cons, Option.map_some, Option.getD_some] at h3
    have hc : wLet c = true := by
      rw [List.all_cons, Bool.and_eq_true] at h4; exact h4.1
    have hall : (c :: r).takeWhile wLet = c :: r := takeWhile_all h4
    have key : wBlank c = false ∧ c ≠ 35 ∧ wSign c = false ∧ c ≠ 34 ∧ c ≠ 47 := by
      refine ⟨?_, ?_, ?_, ?_, ?_⟩
      · cases hb : wBlank c with
        | false => rfl
        | true => simp [wBlank] at hb; rcases hb with rfl | rfl | rfl | rfl <;> cases hc
      · rintro rfl; cases hc
      · cases hb : wSign c with
        | false => rfl
        | true => simp [wSign] at hb; rcases hb with rfl | rfl | rfl | rfl <;> cases hc
      · rintro rfl; cases hc
      · rintro rfl; cases hc
    have hk : kws.idxOf? (c :: r) = none := by
      rw [List.idxOf?, List.findIdx?_eq_none_iff]
      intro x hx
      simp only [beq_eq_false_iff_ne, ne_eq]
      rintro rfl; exact h5 hx
    refine ⟨c, r, rfl, key.1, key.2.1, ?_, by simp⟩
    have h6 : lettersN (c :: r) = (c :: r).length := by simp only [lettersN, hall]
    simp only [wordN, key.2.2.1, Bool.false_eq_true, if_false, if_neg key.2.2.2.1, if_neg key.2.2.2.2, hc, h3, Bool.not_false, Bool.and_self, if_true, hall, hk, h6, if_pos h2]
theorem ended_path : ∀ {s : List UInt8}, s.all pathC = true → endedN 34 34 (s ++ [34]) = some s.length
  | [], _ => rfl
  | c :: r, h => by
    simp only [List.all_cons, Bool.and_eq_true] at h
    have h1 : wEnd c = false := by
      cases hb : wEnd c with
      | false => rfl
      | true => simp [wEnd] at hb; rcases hb with rfl | rfl <;> cases h.1
    have h2 : c ≠ 34 := by rintro rfl; cases h.1
    obtain ⟨d, r', hd⟩ : ∃ d r', r ++ [34] = d :: r' := by cases r <;> simp
    have := ended_path h.2
    rw [hd] at this
    rw [List.cons_append, hd]
    simp [endedN, h1, h2, this]
theorem path_is {s : List UInt8} (h : isPathN s = true) : WordIs (34 :: (s ++ [34])) 2 := by
  have h' := h
  simp only [isPathN, Bool.and_eq_true, decide_eq_true_eq] at h
  refine ⟨34, s ++ [34], rfl, rfl, by decide, ?_, by simp⟩
  simp only [wordN, show wSign 34 = false from rfl, Bool.false_eq_true, if_false, if_true, ended_path h.2, List.take_left, h']
  simp
theorem pat_is {s : List UInt8} (h : isPatN s = true) : WordIs (47 :: (s ++ [47])) 3 := by
  simp only [isPatN, decide_eq_true_eq] at h
  refine ⟨47, s ++ [47], rfl, rfl, by decide, ?_, by simp⟩
  simp only [wordN, show wSign 47 = false from rfl, Bool.false_eq_true, if_false, if_true, show ((47 : UInt8) = 34) = False by simp, h]
  simp
theorem sign_is {c : UInt8} (h : wSign c = true) : WordIs [c] 4 := by
  refine ⟨c, [], rfl, ?_, ?_, by simp [wordN, h], by simp⟩
  · simp [wSign] at h; rcases h with rfl | rfl | rfl | rfl <;> rfl
  · simp [wSign] at h; rcases h with rfl | rfl | rfl | rfl <;> decide
theorem kw_is : ∀ {k : Nat}, 5 ≤ k → k ≤ 13 → WordIs (spelledN k) k := by
  intro k h1 h2
  have : k = 5 ∨ k = 6 ∨ k = 7 ∨ k = 8 ∨ k = 9 ∨ k = 10 ∨ k = 11 ∨ k = 12 ∨ k = 13 := by omega
  rcases this with rfl | rfl | rfl | rfl | rfl | rfl | rfl | rfl | rfl <;> exact ⟨_, _, rfl, by decide, by decide, by decide +kernel, by decide⟩

/-! ### what is put between -/
/-- It is passed over. -/
def Skip (x : List UInt8) : Prop := (x.head?.map wLet).getD false = false ∧ ∀ a s, cutN a (x ++ s) = cutN (a + x.length) s
theorem Skip.app {x y : List UInt8} (h : Skip x) (h' : Skip y) (hx : x ≠ []) : Skip (x ++ y) := by
  refine ⟨?_, fun a s => ?_⟩
  · cases x with
    | nil => exact absurd rfl hx
    | cons c r => exact h.1
  · rw [List.append_assoc, h.2, h'.2, List.length_append, Nat.add_assoc]
theorem skip_blank {c : UInt8} (h : wBlank c = true) : Skip [c] := by
  refine ⟨?_, fun a s => cut_blank h⟩
  simp [wBlank] at h
  rcases h with rfl | rfl | rfl | rfl <;> rfl
theorem skip_remark {r : List UInt8} (h : r.all (fun x => decide (x ≠ 10)) = true) : Skip (35 :: (r ++ [10])) := by
  refine ⟨rfl, fun a s => ?_⟩
  have h' : ∀ x ∈ r, (fun x : UInt8 => decide (x ≠ 10)) x = true := by simpa using h
  rw [List.cons_append, cut_remark, List.append_assoc, List.takeWhile_append_of_pos h', List.dropWhile_append_of_pos h']
  have e1 : List.takeWhile (fun x : UInt8 => decide (x ≠ 10)) ([10] ++ s) = [] := by simp
  have e2 : List.dropWhile (fun x : UInt8 => decide (x ≠ 10)) ([10] ++ s) = 10 :: s := by simp
  rw [e1, e2, cut_blank rfl]
  congr 1; simp; omega
def kindsN (x : List Tok × Option Nat) : List Nat := x.1.map (·.K)
theorem kinds_at (l : List UInt8) (a b : Nat) : kindsN (cutN a l) = kindsN (cutN b l) ∧ (cutN a l).2.isSome = (cutN b l).2.isSome := by
  rw [cut_from l a, cut_from l b]
  simp [kindsN, shiftT, Function.comp_def]
theorem spread_gen {x : List UInt8} (hx : Skip x) (hne : x ≠ []) : ∀ (l : List UInt8) (a j : Nat) (t : Tok), (cutN a l).1[j]? = some t →
    kindsN (cutN a (l.take (t.T - a) ++ x ++ l.drop (t.T - a))) = kindsN (cutN a l) ∧ (cutN a (l.take (t.T - a) ++ x ++ l.drop (t.T - a))).2.isSome = (cutN a l).2.isSome := by
  refine cut_ind (P := fun a l => ∀ (j : Nat) (t : Tok), (cutN a l).1[j]? = some t →
    kindsN (cutN a (l.take (t.T - a) ++ x ++ l.drop (t.T - a))) = kindsN (cutN a l) ∧ (cutN a (l.take (t.T - a) ++ x ++ l.drop (t.T - a))).2.isSome = (cutN a l).2.isSome) ?_ ?_ ?_ ?_ ?_
  · intro a j t h; simp [cut_nil] at h
  · intro a c r hb ih j t h
    rw [cut_blank hb] at h ⊢
    have hm := cut_wordIs r (a + 1) t (List.mem_of_getElem? h)
    have := ih j t h
    rw [show t.T - a = (t.T - (a + 1)) + 1 by omega, List.take_succ_cons, List.drop_succ_cons, List.cons_append, List.cons_append, cut_blank hb]
    exact this
  · intro a r ih j t h
    rw [cut_remark] at h ⊢
    have hm := cut_wordIs _ _ t (List.mem_of_getElem? h)
    have := ih j t h
    have hsplit := List.takeWhile_append_dropWhile (p := fun x : UInt8 => decide (x ≠ 10)) (l := r)
    have htw := takeWhile_idem (p := fun x : UInt8 => decide (x ≠ 10)) (l := r)
    have hdl := dropWhile_len (fun x : UInt8 => decide (x ≠ 10)) r
    have hdh : ∃ d, r.dropWhile (fun x : UInt8 => decide (x ≠ 10)) = 10 :: d := by
      cases hd : r.dropWhile (fun x : UInt8 => decide (x ≠ 10)) with
      | nil => rw [hd] at hm; simp at hm; omega
      | cons y ys =>
        have := List.head?_dropWhile_not (fun x : UInt8 => decide (x ≠ 10)) r
        rw [hd] at this
        simp at this
        exact ⟨ys, by rw [this]⟩
    generalize hT : r.takeWhile (fun x : UInt8 => decide (x ≠ 10)) = tw at *
    generalize hD : r.dropWhile (fun x : UInt8 => decide (x ≠ 10)) = dw at *
    obtain ⟨d, rfl⟩ := hdh
    have htw' : ∀ x ∈ tw, (fun x : UInt8 => decide (x ≠ 10)) x = true := by simpa using htw
    obtain ⟨q, hq⟩ : ∃ q, t.T - (a + 1 + tw.length) = q + 1 := ⟨t.T - (a + 1 + tw.length) - 1, by omega⟩
    have e : (35 :: r).take (t.T - a) ++ x ++ (35 :: r).drop (t.T - a) = 35 :: (tw ++ ((10 :: d).take (t.T - (a + 1 + tw.length)) ++ x ++ (10 :: d).drop (t.T - (a + 1 + tw.length)))) := by
      rw [show t.T - a = (t.T - a - 1) + 1 by omega, List.take_succ_cons, List.drop_succ_cons, ← hsplit, List.take_append, List.drop_append, List.take_of_length_le (by omega), List.drop_eq_nil_of_le (by omega : tw.length ≤ _), show t.T - a - 1 - tw.length = t.T - (a + 1 + tw.length) by omega]
      simp
    rw [e, cut_remark, List.takeWhile_append_of_pos htw', List.dropWhile_append_of_pos htw']
    have e1 : List.takeWhile (fun x : UInt8 => decide (x ≠ 10)) ((10 :: d).take (t.T - (a + 1 + tw.length)) ++ x ++ (10 :: d).drop (t.T - (a + 1 + tw.length))) = [] := by
      rw [hq]; simp
    have e2 : List.dropWhile (fun x : UInt8 => decide (x ≠ 10)) ((10 :: d).take (t.T - (a + 1 + tw.length)) ++ x ++ (10 :: d).drop (t.T - (a + 1 + tw.length))) = (10 :: d).take (t.T - (a + 1 + tw.length)) ++ x ++ (10 :: d).drop (t.T - (a + 1 + tw.length)) := by
      rw [hq]; simp
    rw [e1, e2, List.append_nil]
    exact this
  · intro a c r hb hr hw j t h
    rw [cut_bad hb hr hw] at h; simp at h
  · intro a c r hb hr hw ih j t h
    have hcw := cut_word (a := a) hb hr hw
    obtain ⟨w1, w2, w3, w4⟩ := word_ext hw
    rw [hcw] at h
    cases j with
    | zero =>
      simp only [List.getElem?_cons_zero, Option.some.injEq] at h
      subst h
      simp only [Nat.add_sub_cancel_left]
      have hn : wordN ((c :: r).take (wordN (c :: r)).2 ++ x ++ (c :: r).drop (wordN (c :: r)).2) = wordN (c :: r) := by
        rw [List.append_assoc]
        refine w4 _ (.inr (.inr (.inr ?_)))
        cases x with
        | nil => exact absurd rfl hne
        | cons y ys => exact hx.1
      have hd : ((c :: r).take (wordN (c :: r)).2 ++ x ++ (c :: r).drop (wordN (c :: r)).2).drop (wordN (c :: r)).2 = x ++ (c :: r).drop (wordN (c :: r)).2 := by
        rw [List.append_assoc, List.drop_append, List.drop_eq_nil_of_le (by simp; omega), List.nil_append]
        rw [show (wordN (c :: r)).2 - ((c :: r).take (wordN (c :: r)).2).length = 0 by simp only [List.length_take]; omega]; rfl
      obtain ⟨r', hr'⟩ : ∃ r', (c :: r).take (wordN (c :: r)).2 ++ x ++ (c :: r).drop (wordN (c :: r)).2 = c :: r' := by
        obtain ⟨n, hn⟩ : ∃ n, (wordN (c :: r)).2 = n + 1 := ⟨(wordN (c :: r)).2 - 1, by omega⟩
        rw [hn]; exact ⟨_, rfl⟩
      rw [hr'] at hn hd ⊢
      rw [cut_word hb hr (by rw [hn]; exact hw), hn, hd, hcw, hx.2]
      have := kinds_at ((c :: r).drop (wordN (c :: r)).2) (a + (wordN (c :: r)).2 + x.length) (a + (wordN (c :: r)).2)
      simp only [kindsN, List.map_cons] at this ⊢
      exact ⟨by rw [this.1], this.2⟩
    | succ j =>
      simp only [List.getElem?_cons_succ] at h
      have hm := cut_wordIs _ _ t (List.mem_of_getElem? h)
      have := ih j t h
      have hp : (wordN (c :: r)).2 + 1 ≤ t.T - a := by omega
      have hlen : t.T - a ≤ (c :: r).length := by
        have := hm.2.2.1
        simp only [List.length_drop] at this; omega
      have hn : wordN ((c :: r).take (t.T - a) ++ x ++ (c :: r).drop (t.T - a)) = wordN (c :: r) := by
        refine word_alike hw ?_ (.inl ?_)
        · rw [List.append_assoc, List.take_append_of_le_length (by simp only [List.length_take]; omega), List.take_take]; congr 1; omega
        · rw [List.append_assoc, List.drop_append_of_le_length (by simp only [List.length_take]; omega), List.drop_take]
          rw [List.head?_append]
          rw [List.head?_take, if_neg (by omega)]
          obtain ⟨y, hy, hy2⟩ : ∃ y, ((c :: r).drop (wordN (c :: r)).2).head? = some y ∧ True := by
            rw [List.drop_eq_getElem_cons (by omega)]; exact ⟨_, rfl, trivial⟩
          rw [hy]; rfl
      have hd : ((c :: r).take (t.T - a) ++ x ++ (c :: r).drop (t.T - a)).drop (wordN (c :: r)).2 = ((c :: r).drop (wordN (c :: r)).2).take (t.T - (a + (wordN (c :: r)).2)) ++ x ++ ((c :: r).drop (wordN (c :: r)).2).drop (t.T - (a + (wordN (c :: r)).2)) := by
        rw [List.append_assoc, List.drop_append_of_le_length (by simp only [List.length_take]; omega), List.drop_take, List.drop_drop, List.append_assoc]
        rw [show t.T - a - (wordN (c :: r)).2 = t.T - (a + (wordN (c :: r)).2) by omega, show (wordN (c :: r)).2 + (t.T - (a + (wordN (c :: r)).2)) = t.T - a by omega]
      obtain ⟨r', hr'⟩ : ∃ r', (c :: r).take (t.T - a) ++ x ++ (c :: r).drop (t.T - a) = c :: r' := by
        obtain ⟨n, hn⟩ : ∃ n, t.T - a = n + 1 := ⟨t.T - a - 1, by omega⟩
        rw [hn]; exact ⟨_, rfl⟩
      rw [hr'] at hn hd ⊢
      rw [cut_word hb hr (by rw [hn]; exact hw), hn, hd, hcw]
      simp only [kindsN, List.map_cons] at this ⊢
      exact ⟨by rw [this.1], this.2⟩
end Go.Eng
