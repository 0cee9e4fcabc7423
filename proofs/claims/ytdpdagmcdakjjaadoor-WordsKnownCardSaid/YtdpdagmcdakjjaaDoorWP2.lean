/- The words of bytes: what the chapter says of them. -/
import Derived.Test.YtdpdagmcdakjjaaDoorWP
set_option linter.unusedVariables false
set_option linter.unusedSimpArgs false
namespace Go.Eng

theorem cut_nil {a : Nat} : cutN a [] = ([], none) := by simp [cutN]
theorem cut_blank {a : Nat} {c : UInt8} {r : List UInt8} (h : wBlank c = true) : cutN a (c :: r) = cutN (a + 1) r := by
  rw [cutN]; simp [h]
theorem cut_remark {a : Nat} {r : List UInt8} : cutN a (35 :: r) = cutN (a + 1 + (r.takeWhile (· ≠ 10)).length) (r.dropWhile (· ≠ 10)) := by
  rw [cutN]; simp [show wBlank 35 = false from rfl]
theorem cut_bad {a : Nat} {c : UInt8} {r : List UInt8} (h : wBlank c = false) (h' : c ≠ 35) (hw : (wordN (c :: r)).1 = 0) : cutN a (c :: r) = ([], some a) := by
  rw [cutN]; simp [h, h', hw]
theorem cut_word {a : Nat} {c : UInt8} {r : List UInt8} (h : wBlank c = false) (h' : c ≠ 35) (hw : (wordN (c :: r)).1 ≠ 0) :
    cutN a (c :: r) = (⟨(wordN (c :: r)).1, a, a + (wordN (c :: r)).2⟩ :: (cutN (a + (wordN (c :: r)).2) ((c :: r).drop (wordN (c :: r)).2)).1, (cutN (a + (wordN (c :: r)).2) ((c :: r).drop (wordN (c :: r)).2)).2) := by
  have hn := (word_ext hw).1
  have e : r.drop ((wordN (c :: r)).2 - 1) = (c :: r).drop (wordN (c :: r)).2 := by
    obtain ⟨k, hk⟩ : ∃ k, (wordN (c :: r)).2 = k + 1 := ⟨(wordN (c :: r)).2 - 1, by omega⟩
    rw [hk]; simp
  rw [cutN]; simp [h, h', hw, e]

/-- An induction along the words. -/
theorem cut_ind {P : Nat → List UInt8 → Prop} (h0 : ∀ a, P a [])
    (h1 : ∀ a c r, wBlank c = true → P (a + 1) r → P a (c :: r))
    (h2 : ∀ a r, P (a + 1 + (r.takeWhile (· ≠ 10)).length) (r.dropWhile (· ≠ 10)) → P a (35 :: r))
    (h3 : ∀ a c r, wBlank c = false → c ≠ 35 → (wordN (c :: r)).1 = 0 → P a (c :: r))
    (h4 : ∀ a c r, wBlank c = false → c ≠ 35 → (wordN (c :: r)).1 ≠ 0 → P (a + (wordN (c :: r)).2) ((c :: r).drop (wordN (c :: r)).2) → P a (c :: r)) : ∀ l a, P a l := by
  intro l
  induction hl : l.length using Nat.strongRecOn generalizing l with
  | _ n ih =>
    intro a
    cases l with
    | nil => exact h0 a
    | cons c r =>
      subst hl
      by_cases hb : wBlank c = true
      · exact h1 a c r hb (ih r.length (by simp) r rfl _)
      · have hb : wBlank c = false := by simpa using hb
        by_cases hr : c = 35
        · subst hr
          refine h2 a r (ih _ ?_ _ rfl _)
          have := (List.dropWhile_suffix (fun x : UInt8 => decide (x ≠ 10)) (l := r)).length_le
          simp only [List.length_cons]; omega
        · by_cases hw : (wordN (c :: r)).1 = 0
          · exact h3 a c r hb hr hw
          · refine h4 a c r hb hr hw (ih _ ?_ _ rfl _)
            have := (word_ext hw).1
            simp only [List.length_drop, List.length_cons]; omega

/-- Where words stand does not matter to what they are. -/
def shiftT (d : Nat) (t : Tok) : Tok := ⟨t.K, t.F + d, t.T + d⟩
theorem cut_shift : ∀ (l : List UInt8) (a d : Nat), cutN (a + d) l = ((cutN a l).1.map (shiftT d), (cutN a l).2.map (· + d)) := by
  intro l
  refine cut_ind (P := fun a l => ∀ d, cutN (a + d) l = ((cutN a l).1.map (shiftT d), (cutN a l).2.map (· + d))) ?_ ?_ ?_ ?_ ?_ l
  · intro a d; simp [cut_nil]
  · intro a c r hb ih d
    rw [cut_blank hb, cut_blank hb, ← ih d]; congr 1; omega
  · intro a r ih d
    rw [cut_remark, cut_remark, ← ih d]; congr 1; omega
  · intro a c r hb hr hw d
    rw [cut_bad hb hr hw, cut_bad hb hr hw]; simp
  · intro a c r hb hr hw ih d
    have := ih d
    rw [cut_word hb hr hw, cut_word hb hr hw]
    rw [show a + d + (wordN (c :: r)).2 = a + (wordN (c :: r)).2 + d by omega, this]
    simp [shiftT]
theorem cut_from (l : List UInt8) (a : Nat) : cutN a l = ((cutN 0 l).1.map (shiftT a), (cutN 0 l).2.map (· + a)) := by
  have := cut_shift l 0 a
  simpa using this

/-! ### the bytes ahead -/
theorem dropWhile_len {α : Type} (p : α → Bool) (l : List α) : (l.takeWhile p).length + (l.dropWhile p).length = l.length := by
  rw [← List.length_append, List.takeWhile_append_dropWhile]
theorem take_dropWhile {α : Type} {p : α → Bool} : ∀ {l : List α} {m : Nat}, (l.takeWhile p).length ≤ m → (l.take m).takeWhile p = l.takeWhile p ∧ (l.take m).dropWhile p = (l.dropWhile p).take (m - (l.takeWhile p).length)
  | [], m, h => by simp
  | a :: l, m, h => by
    by_cases ha : p a
    · simp only [List.takeWhile_cons, ha, if_true, List.length_cons] at h
      obtain ⟨k, rfl⟩ : ∃ k, m = k + 1 := ⟨m - 1, by omega⟩
      obtain ⟨h1, h2⟩ := take_dropWhile (p := p) (l := l) (m := k) (by omega)
      simp [ha, h1, h2]
    · cases m with
      | zero => simp [ha]
      | succ m => simp [ha]
theorem cut_ahead : ∀ (l : List UInt8) (a : Nat) (e : Nat), (cutN a l).2 = some e → a ≤ e ∧ e < a + l.length ∧ cutN a (l.take (e - a)) = ((cutN a l).1, none) := by
  refine cut_ind (P := fun a l => ∀ e, (cutN a l).2 = some e → a ≤ e ∧ e < a + l.length ∧ cutN a (l.take (e - a)) = ((cutN a l).1, none)) ?_ ?_ ?_ ?_ ?_
  · intro a e h; simp [cut_nil] at h
  · intro a c r hb ih e h
    rw [cut_blank hb] at h ⊢
    obtain ⟨h1, h2, h3⟩ := ih e h
    refine ⟨by omega, by simp; omega, ?_⟩
    rw [show e - a = (e - (a + 1)) + 1 by omega, List.take_succ_cons, cut_blank hb, h3]
  · intro a r ih e h
    rw [cut_remark] at h ⊢
    obtain ⟨h1, h2, h3⟩ := ih e h
    have hl := dropWhile_len (fun x : UInt8 => decide (x ≠ 10)) r
    obtain ⟨q1, q2⟩ := take_dropWhile (p := fun x : UInt8 => decide (x ≠ 10)) (l := r) (m := e - (a + 1)) (by omega)
    refine ⟨by omega, by simp; omega, ?_⟩
    rw [show e - a = (e - (a + 1)) + 1 by omega, List.take_succ_cons, cut_remark, q1, q2, ← h3]
    congr 2; omega
  · intro a c r hb hr hw e h
    rw [cut_bad hb hr hw] at h ⊢
    simp at h; subst h
    exact ⟨Nat.le_refl _, by simp, by simp [cut_nil]⟩
  · intro a c r hb hr hw ih e h
    rw [cut_word hb hr hw] at h ⊢
    obtain ⟨h1, h2, h3⟩ := ih e h
    obtain ⟨w1, w2, _, _⟩ := word_ext hw
    simp only [List.length_drop] at h2
    refine ⟨by omega, by omega, ?_⟩
    have e1 : (c :: r).take (e - a) = c :: r.take (e - a - 1) := by
      rw [show e - a = (e - a - 1) + 1 by omega, List.take_succ_cons]; rfl
    have hal : wordN ((c :: r).take (e - a)) = wordN (c :: r) := by
      refine word_alike hw ?_ ?_
      · rw [List.take_take]; congr 1; omega
      · rw [List.drop_take]
        rcases Nat.eq_zero_or_pos (e - a - (wordN (c :: r)).2) with h0 | h0
        · right; rw [h0]; simp
        · left
          rw [List.head?_take]; rw [if_neg (by omega)]
    have hd : ((c :: r).take (e - a)).drop (wordN (c :: r)).2 = ((c :: r).drop (wordN (c :: r)).2).take (e - (a + (wordN (c :: r)).2)) := by
      rw [List.drop_take]; congr 1; omega
    rw [e1] at hal hd ⊢
    rw [cut_word hb hr (by rw [hal]; exact hw), hal, hd, h3]

/-! ### between words -/
/-- May that stand between words? In a remark, or not. -/
def btwN : Bool → List UInt8 → Option Bool
  | m, [] => some m
  | m, c :: r =>
    let m' := if c = 10 then false else if c = 35 then true else m
    if m' = false ∧ wBlank c = false then none else btwN m' r
theorem btw_app : ∀ (l : List UInt8) (m : Bool) (s : List UInt8), btwN m (l ++ s) = (btwN m l).bind fun m' => btwN m' s
  | [], m, s => rfl
  | c :: l, m, s => by
    simp only [List.cons_append, btwN]
    generalize (if c = 10 then false else if c = 35 then true else m) = m'
    by_cases h : m' = false ∧ wBlank c = false
    · rw [if_pos h, if_pos h]; rfl
    · rw [if_neg h, if_neg h]; exact btw_app l _ s
theorem btw_in : ∀ {l : List UInt8}, l.all (fun x => decide (x ≠ 10)) = true → btwN true l = some true
  | [], _ => rfl
  | c :: l, h => by
    simp only [List.all_cons, Bool.and_eq_true, decide_eq_true_eq] at h
    simp only [btwN, if_neg h.1]
    have : (if c = 35 then true else true) = true := by split <;> rfl
    rw [this]
    simp only [Bool.true_eq_false, false_and, if_false]
    exact btw_in h.2
theorem btw_blank {m : Bool} {c : UInt8} (h : wBlank c = true) (hm : m = true → c = 10) : btwN m [c] = some false := by
  have h35 : c ≠ 35 := by rintro rfl; cases h
  cases m with
  | false =>
    simp only [btwN, if_neg h35]
    by_cases h10 : c = 10
    · simp [h10, h, btwN]; rfl
    · simp [h10, h, btwN]
  | true =>
    have := hm rfl
    subst this
    simp [btwN, h]
/-- The state in which a word may begin. -/
def headOk (m : Bool) (l : List UInt8) : Prop := m = true → l = [] ∨ l.head? = some 10
theorem headOk_false {l : List UInt8} : headOk false l := fun h => by cases h

/-- Words stand in order; between them there is what may stand there. `fr`: where the last one ended; `g`: what has stood there since. -/
def OrdN (l : List UInt8) (e : Nat) : Nat → List Tok → Prop
  | fr, [] => fr ≤ e ∧ (btwN false ((l.take e).drop fr)).isSome = true
  | fr, t :: ts => 1 ≤ t.K ∧ t.K ≤ 13 ∧ fr ≤ t.F ∧ t.F < t.T ∧ t.T ≤ e ∧ (btwN false ((l.take t.F).drop fr)).isSome = true ∧ OrdN l e t.T ts
theorem word_kind {l : List UInt8} : (wordN l).1 ≤ 13 := by
  cases l with
  | nil => simp [wordN]
  | cons c r =>
    simp only [wordN]
    split
    · simp
    · split
      · split
        · split <;> simp
        · simp
      · split
        · split <;> simp
        · split
          · split
            · rename_i i hi
              have : i < kws.length := by
                rw [List.idxOf?] at hi
                exact (List.findIdx?_eq_some_iff_getElem.1 hi).1
              simp [kws] at this ⊢
              omega
            · split <;> simp
          · simp
theorem order_gen : ∀ (l : List UInt8) (a : Nat) (p g : List UInt8) (m : Bool) (fr : Nat), p.length + g.length = a → fr = p.length → btwN false g = some m → headOk m l →
    OrdN (p ++ g ++ l) ((cutN a l).2.getD (a + l.length)) fr (cutN a l).1 := by
  refine cut_ind (P := fun a l => ∀ (p g : List UInt8) (m : Bool) (fr : Nat), p.length + g.length = a → fr = p.length → btwN false g = some m → headOk m l →
    OrdN (p ++ g ++ l) ((cutN a l).2.getD (a + l.length)) fr (cutN a l).1) ?_ ?_ ?_ ?_ ?_
  · intro a p g m fr ha hf hg hm
    simp only [cut_nil, OrdN, Option.getD_none, List.length_nil, Nat.add_zero, List.append_nil]
    refine ⟨by omega, ?_⟩
    rw [List.take_of_length_le (by simp; omega), hf, List.drop_left, hg]; rfl
  · intro a c r hb ih p g m fr ha hf hg hm
    have h1 : btwN false (g ++ [c]) = some false := by
      rw [btw_app, hg]
      refine btw_blank hb fun h => ?_
      rcases hm h with h | h
      · cases h
      · simpa using h
    have := ih p (g ++ [c]) false fr (by simp; omega) hf h1 headOk_false
    rw [cut_blank hb]
    rw [show a + (c :: r).length = a + 1 + r.length by simp; omega]
    simpa using this
  · intro a r ih p g m fr ha hf hg hm
    have hm' : m = false := by
      cases m with
      | false => rfl
      | true => rcases hm rfl with h | h <;> simp at h
    subst hm'
    have hsplit := List.takeWhile_append_dropWhile (p := fun x : UInt8 => decide (x ≠ 10)) (l := r)
    have h1 : btwN false (g ++ 35 :: r.takeWhile (fun x => decide (x ≠ 10))) = some true := by
      rw [btw_app, hg]
      simp only [Option.bind_some, btwN]
      exact btw_in takeWhile_idem
    have h2 : headOk true (r.dropWhile (fun x => decide (x ≠ 10))) := fun _ => by
      cases hd : r.dropWhile (fun x => decide (x ≠ 10)) with
      | nil => exact .inl rfl
      | cons x xs =>
        right
        have := List.head?_dropWhile_not (fun x : UInt8 => decide (x ≠ 10)) r
        rw [hd] at this
        simpa using this
    have := ih p (g ++ 35 :: r.takeWhile (fun x => decide (x ≠ 10))) true fr (by simp; omega) hf h1 h2
    rw [cut_remark]
    have hl := dropWhile_len (fun x : UInt8 => decide (x ≠ 10)) r
    rw [show a + (35 :: r).length = a + 1 + (r.takeWhile (fun x => decide (x ≠ 10))).length + (r.dropWhile (fun x => decide (x ≠ 10))).length by simp only [List.length_cons]; omega]
    have e : p ++ (g ++ 35 :: r.takeWhile (fun x => decide (x ≠ 10))) ++ r.dropWhile (fun x => decide (x ≠ 10)) = p ++ g ++ 35 :: r := by
      conv => rhs; rw [← hsplit]
      simp
    rw [e] at this
    exact this
  · intro a c r hb hr hw p g m fr ha hf hg hm
    rw [cut_bad hb hr hw]
    simp only [OrdN, Option.getD_some]
    refine ⟨by omega, ?_⟩
    rw [List.take_append_of_le_length (by simp; omega), List.take_of_length_le (by simp; omega), hf, List.drop_left, hg]; rfl
  · intro a c r hb hr hw ih p g m fr ha hf hg hm
    obtain ⟨w1, w2, _, _⟩ := word_ext hw
    have hk := word_kind (l := c :: r)
    have := ih (p ++ g ++ (c :: r).take (wordN (c :: r)).2) [] false (a + (wordN (c :: r)).2) (by simp only [List.length_append, List.length_take, List.length_nil]; omega) (by simp only [List.length_append, List.length_take]; omega) rfl headOk_false
    rw [List.append_nil, List.append_assoc (p ++ g), List.take_append_drop] at this
    rw [cut_word hb hr hw]
    have e1 : a + (wordN (c :: r)).2 + ((c :: r).drop (wordN (c :: r)).2).length = a + (c :: r).length := by simp only [List.length_drop]; omega
    rw [e1] at this
    refine ⟨by simp only; omega, by simp only; omega, by simp only; omega, by simp only; omega, ?_, ?_, this⟩
    · have h2 := (show ∀ (l : List UInt8) (a e : Nat), (cutN a l).2 = some e → a ≤ e from fun l a e h => (cut_ahead l a e h).1)
      simp only
      cases he : (cutN (a + (wordN (c :: r)).2) ((c :: r).drop (wordN (c :: r)).2)).2 with
      | none => simp only [Option.getD_none]; omega
      | some e => simp only [Option.getD_some]; exact h2 _ _ _ he
    · simp only
      rw [List.take_append_of_le_length (by simp; omega), List.take_of_length_le (by simp; omega), hf, List.drop_left, hg]; rfl
/-- The stage's theorem. -/
theorem order_law (l : List UInt8) : OrdN l ((cutN 0 l).2.getD l.length) 0 (cutN 0 l).1 := by
  have := order_gen l 0 [] [] false 0 rfl rfl rfl headOk_false
  simpa using this
end Go.Eng
