/- The words of bytes: each alone, one behind the other, and what is put between. -/
import Derived.Test.YtdpdagmcdakjjaaDoorWP2
set_option linter.unusedVariables false
set_option linter.unusedSimpArgs false
namespace Go.Eng

theorem takeWhile_all {α : Type} {p : α → Bool} : ∀ {l : List α}, l.all p = true → l.takeWhile p = l
  | [], _ => rfl
  | a :: l, h => by
    rw [List.all_cons, Bool.and_eq_true] at h
    rw [List.takeWhile_cons, if_pos h.1, takeWhile_all h.2]
/-- A text that is just one word. -/
def WordIs (own : List UInt8) (k : Nat) : Prop := ∃ c r, own = c :: r ∧ wBlank c = false ∧ c ≠ 35 ∧ wordN own = (k, own.length) ∧ k ≠ 0
theorem WordIs.cut {own : List UInt8} {k : Nat} (h : WordIs own k) (a : Nat) : cutN a own = ([⟨k, a, a + own.length⟩], none) := by
  obtain ⟨c, r, rfl, h1, h2, h3, h4⟩ := h
  rw [cut_word h1 h2 (by rw [h3]; exact h4), h3]
  simp [cut_nil]
theorem WordIs.app {own : List UInt8} {k : Nat} (h : WordIs own k) {s : List UInt8} (hs : (s.head?.map wLet).getD false = false) (a : Nat) :
    cutN a (own ++ s) = (⟨k, a, a + own.length⟩ :: (cutN (a + own.length) s).1, (cutN (a + own.length) s).2) := by
  obtain ⟨c, r, rfl, h1, h2, h3, h4⟩ := h
  have hw : (wordN (c :: r)).1 ≠ 0 := by rw [h3]; exact h4
  have := (word_ext hw).2.2.2 s (.inr (.inr (.inr hs)))
  rw [h3] at this
  simp only [List.take_length] at this
  have hw' : (wordN (c :: (r ++ s))).1 ≠ 0 := by rw [← List.cons_append, this]; exact h4
  rw [List.cons_append, cut_word h1 h2 hw']
  rw [← List.cons_append, this]
  simp only [List.drop_left]
theorem cut_wordIs : ∀ (l : List UInt8) (a : Nat), ∀ t ∈ (cutN a l).1, a ≤ t.F ∧ t.F < t.T ∧ t.T ≤ a + l.length ∧ WordIs ((l.drop (t.F - a)).take (t.T - t.F)) t.K := by
  refine cut_ind (P := fun a l => ∀ t ∈ (cutN a l).1, a ≤ t.F ∧ t.F < t.T ∧ t.T ≤ a + l.length ∧ WordIs ((l.drop (t.F - a)).take (t.T - t.F)) t.K) ?_ ?_ ?_ ?_ ?_
  · intro a t h; simp [cut_nil] at h
  · intro a c r hb ih t h
    rw [cut_blank hb] at h
    obtain ⟨h1, h2, h3, h4⟩ := ih t h
    refine ⟨by omega, h2, by simp; omega, ?_⟩
    rw [show t.F - a = (t.F - (a + 1)) + 1 by omega]
    simpa using h4
  · intro a r ih t h
    rw [cut_remark] at h
    obtain ⟨h1, h2, h3, h4⟩ := ih t h
    have hl := dropWhile_len (fun x : UInt8 => decide (x ≠ 10)) r
    refine ⟨by omega, h2, by simp; omega, ?_⟩
    have e : (35 :: r).drop (t.F - a) = (r.dropWhile (fun x => decide (x ≠ 10))).drop (t.F - (a + 1 + (r.takeWhile (fun x => decide (x ≠ 10))).length)) := by
      rw [show t.F - a = (t.F - a - 1) + 1 by omega, List.drop_succ_cons]
      conv => lhs; rw [← List.takeWhile_append_dropWhile (p := fun x : UInt8 => decide (x ≠ 10)) (l := r)]
      rw [List.drop_append, List.drop_eq_nil_of_le (by omega), List.nil_append]
      congr 1; omega
    rw [e]; exact h4
  · intro a c r hb hr hw t h
    rw [cut_bad hb hr hw] at h; simp at h
  · intro a c r hb hr hw ih t h
    rw [cut_word hb hr hw] at h
    obtain ⟨w1, w2, w3, w4⟩ := word_ext hw
    rcases List.mem_cons.1 h with rfl | h
    · refine ⟨Nat.le_refl _, by simp only; omega, by simp only; omega, ?_⟩
      simp only [Nat.sub_self, List.drop_zero, Nat.add_sub_cancel_left]
      obtain ⟨n, hn⟩ : ∃ n, (wordN (c :: r)).2 = n + 1 := ⟨(wordN (c :: r)).2 - 1, by omega⟩
      have := w4 [] (.inr (.inr (.inr rfl)))
      rw [List.append_nil] at this
      refine ⟨c, r.take n, by rw [hn, List.take_succ_cons], hb, hr, ?_, hw⟩
      rw [this, List.length_take, Nat.min_eq_left w2]
    · obtain ⟨h1, h2, h3, h4⟩ := ih t h
      simp only [List.length_drop] at h3
      refine ⟨by omega, h2, by omega, ?_⟩
      rw [List.drop_drop] at h4
      rw [show t.F - a = (wordN (c :: r)).2 + (t.F - (a + (wordN (c :: r)).2)) by omega]
      exact h4
/-- What a word may be. -/
theorem idxOf_mem {x : List UInt8} {i : Nat} (h : kws.idxOf? x = some i) : i < kws.length ∧ kws[i]? = some x := by
  rw [List.idxOf?] at h
  obtain ⟨h1, h2, _⟩ := List.findIdx?_eq_some_iff_getElem.1 h
  exact ⟨h1, by rw [List.getElem?_eq_getElem h1]; simpa using h2⟩
theorem idxOf_not {x : List UInt8} (h : kws.idxOf? x = none) : x ∉ kws := by
  rw [List.idxOf?, List.findIdx?_eq_none_iff] at h
  intro hm
  have := h x hm
  simp at this
theorem WordIs.facts {own : List UInt8} {k : Nat} (h : WordIs own k) : 1 ≤ k ∧ k ≤ 13 ∧ (k = 1 → isNameN own = true) ∧ (k = 2 → 2 < own.length ∧ isPathN ((own.take (own.length - 1)).drop 1) = true) ∧
    (k = 3 → 1 < own.length ∧ isPatN ((own.take (own.length - 1)).drop 1) = true) ∧ (k = 4 → own.length = 1) ∧ (5 ≤ k → spelledN k = own ∧ isNameN own = false) := by
  obtain ⟨c, r, rfl, h1, h2, h3, h4⟩ := h
  simp only [wordN] at h3
  by_cases s1 : wSign c = true
  · simp only [if_pos s1, Prod.mk.injEq] at h3
    obtain ⟨rfl, h3⟩ := h3
    exact ⟨by simp, by simp, by simp, by simp, by simp, fun _ => h3.symm, by simp⟩
  · simp only [s1, Bool.false_eq_true, if_false] at h3
    by_cases s2 : c = 34
    · simp only [if_pos s2] at h3
      cases he : endedN 34 34 r with
      | none => simp [he] at h3
      | some n =>
        simp only [he] at h3
        by_cases hp : isPathN (r.take n) = true
        · simp only [if_pos hp, Prod.mk.injEq, List.length_cons] at h3
          obtain ⟨rfl, h3⟩ := h3
          have hn : 1 ≤ (r.take n).length := by
            simp only [isPathN, Bool.and_eq_true, decide_eq_true_eq] at hp
            exact hp.1.1
          simp only [List.length_take] at hn
          refine ⟨by simp, by simp, by simp, fun _ => ⟨by simp; omega, ?_⟩, by simp, by simp, by simp⟩
          rw [show (c :: r).length - 1 = n + 1 by simp; omega, List.take_succ_cons]
          exact hp
        · simp [hp] at h3
    · simp only [if_neg s2] at h3
      by_cases s3 : c = 47
      · simp only [if_pos s3] at h3
        cases he : endedN 47 92 r with
        | none => simp [he] at h3
        | some n =>
          simp only [he, Prod.mk.injEq, List.length_cons] at h3
          obtain ⟨rfl, h3⟩ := h3
          refine ⟨by simp, by simp, by simp, by simp, fun _ => ⟨by simp; omega, ?_⟩, by simp, by simp⟩
          rw [show (c :: r).length - 1 = n + 1 by simp; omega, List.take_succ_cons]
          obtain ⟨e1, e2, e3⟩ := ended_some he
          have e4 : r.take n ++ [47] = r := by
            have : r = r.take n ++ r.drop n := (List.take_append_drop n r).symm
            conv => rhs; rw [this]
            congr 1
            rw [List.drop_eq_getElem_cons (by omega : n < r.length)]
            have e5 : r[n] = 47 := by
              rw [List.getElem?_eq_getElem (by omega)] at e2
              simpa using e2
            rw [e5, List.drop_eq_nil_of_le (by omega)]
          simp only [isPatN, List.drop_succ_cons, List.drop_zero, e4, he]
          simp
          omega
      · simp only [if_neg s3] at h3
        by_cases s4 : (wLet c && !wDig c) = true
        · simp only [if_pos s4] at h3
          cases hk : kws.idxOf? ((c :: r).takeWhile wLet) with
          | some i =>
            simp only [hk, Prod.mk.injEq] at h3
            obtain ⟨rfl, h3⟩ := h3
            have hall : (c :: r).takeWhile wLet = c :: r := by
              have := take_takeWhile (p := wLet) (l := c :: r)
              rw [← this]
              show List.take (lettersN (c :: r)) _ = _
              rw [h3, List.take_length]
            rw [hall] at hk
            obtain ⟨i1, i2⟩ := idxOf_mem hk
            simp only [kws, List.length_cons, List.length_nil] at i1
            refine ⟨by omega, by omega, by omega, by omega, by omega, by omega, fun _ => ⟨?_, ?_⟩⟩
            · unfold spelledN
              rw [if_pos (by omega), show (((5 + i : Nat) : Int) - 5).toNat = i by omega, List.getD_eq_getElem?_getD, i2]; rfl
            · have : (c :: r) ∈ kws := List.mem_of_getElem? i2
              simp [isNameN, this]
          | none =>
            simp only [hk] at h3
            by_cases s5 : lettersN (c :: r) ≤ 24
            · simp only [if_pos s5, Prod.mk.injEq] at h3
              obtain ⟨rfl, h3⟩ := h3
              have hall : (c :: r).takeWhile wLet = c :: r := by
                have := take_takeWhile (p := wLet) (l := c :: r)
                rw [← this]
                show List.take (lettersN (c :: r)) _ = _
                rw [h3, List.take_length]
              rw [hall] at hk
              refine ⟨by simp, by simp, fun _ => ?_, by simp, by simp, by simp, by simp⟩
              have a1 : (c :: r).all wLet = true := by
                have := takeWhile_idem (p := wLet) (l := c :: r)
                rw [hall] at this; exact this
              have a2 := idxOf_not hk
              simp only [Bool.and_eq_true, Bool.not_eq_true'] at s4
              have a3 : (c :: r).length ≤ 24 := by rw [← h3]; exact s5
              simp only [isNameN, a1, List.head?_cons, Option.map_some, Option.getD_some, s4.2]
              simp [a2] at a3 ⊢; exact a3
            · simp [s5] at h3
        · simp [s4] at h3

/-! ### what words are made of -/
theorem name_is {s : List UInt8} (h : isNameN s = true) : WordIs s 1 := by
  simp only [isNameN, Bool.and_eq_true, decide_eq_true_eq, Bool.not_eq_true', decide_eq_false_iff_not] at h
  obtain ⟨⟨⟨⟨h1, h2⟩, h3⟩, h4⟩, h5⟩ := h
  cases s with
  | nil => exact absurd rfl h1
  | cons c r =>
    simp only [List.head?_cons, Option.map_some, Option.getD_some] at h3
    have hc : wLet c = true := by
      rw [List.all_cons, Bool.and_eq_true] at h4; exact h4.1
    have hall : (c :: r).takeWhile wLet = c :: r := takeWhile_all h4
    have key : wBlank c = false ∧ c ≠ 35 ∧ wSign c = false ∧ c ≠ 34 ∧ c ≠ 47 := by
      refine ⟨?_, ?_, ?_, ?_, ?_⟩
      · cases hb : wBlank c with
        | false => rfl
        | true => simp [wBlank] at hb; rcases hb with rfl | rfl | rfl | rfl <;> cases hc
      · rintro rfl; cases hc
      · cases hb : wSign c with
        | false => rfl
        | true => simp [wSign] at hb; rcases hb with rfl | rfl | rfl | rfl <;> cases hc
      · rintro rfl; cases hc
      · rintro rfl; cases hc
    have hk : kws.idxOf? (c :: r) = none := by
      rw [List.idxOf?, List.findIdx?_eq_none_iff]
      intro x hx
      simp only [beq_eq_false_iff_ne, ne_eq]
      rintro rfl; exact h5 hx
    refine ⟨c, r, rfl, key.1, key.2.1, ?_, by simp⟩
    have h6 : lettersN (c :: r) = (c :: r).length := by simp only [lettersN, hall]
    simp only [wordN, key.2.2.1, Bool.false_eq_true, if_false, if_neg key.2.2.2.1, if_neg key.2.2.2.2, hc, h3, Bool.not_false, Bool.and_self, if_true, hall, hk, h6, if_pos h2]
theorem ended_path : ∀ {s : List UInt8}, s.all pathC = true → endedN 34 34 (s ++ [34]) = some s.length
  | [], _ => rfl
  | c :: r, h => by
    simp only [List.all_cons, Bool.and_eq_true] at h
    have h1 : wEnd c = false := by
      cases hb : wEnd c with
      | false => rfl
      | true => simp [wEnd] at hb; rcases hb with rfl | rfl <;> cases h.1
    have h2 : c ≠ 34 := by rintro rfl; cases h.1
    obtain ⟨d, r', hd⟩ : ∃ d r', r ++ [34] = d :: r' := by cases r <;> simp
    have := ended_path h.2
    rw [hd] at this
    rw [List.cons_append, hd]
    simp [endedN, h1, h2, this]
theorem path_is {s : List UInt8} (h : isPathN s = true) : WordIs (34 :: (s ++ [34])) 2 := by
  have h' := h
  simp only [isPathN, Bool.and_eq_true, decide_eq_true_eq] at h
  refine ⟨34, s ++ [34], rfl, rfl, by decide, ?_, by simp⟩
  simp only [wordN, show wSign 34 = false from rfl, Bool.false_eq_true, if_false, if_true, ended_path h.2, List.take_left, h']
  simp
theorem pat_is {s : List UInt8} (h : isPatN s = true) : WordIs (47 :: (s ++ [47])) 3 := by
  simp only [isPatN, decide_eq_true_eq] at h
  refine ⟨47, s ++ [47], rfl, rfl, by decide, ?_, by simp⟩
  simp only [wordN, show wSign 47 = false from rfl, Bool.false_eq_true, if_false, if_true, show ((47 : UInt8) = 34) = False by simp, h]
  simp
theorem sign_is {c : UInt8} (h : wSign c = true) : WordIs [c] 4 := by
  refine ⟨c, [], rfl, ?_, ?_, by simp [wordN, h], by simp⟩
  · simp [wSign] at h; rcases h with rfl | rfl | rfl | rfl <;> rfl
  · simp [wSign] at h; rcases h with rfl | rfl | rfl | rfl <;> decide
theorem kw_is : ∀ {k : Nat}, 5 ≤ k → k ≤ 13 → WordIs (spelledN k) k := by
  intro k h1 h2
  have : k = 5 ∨ k = 6 ∨ k = 7 ∨ k = 8 ∨ k = 9 ∨ k = 10 ∨ k = 11 ∨ k = 12 ∨ k = 13 := by omega
  rcases this with rfl | rfl | rfl | rfl | rfl | rfl | rfl | rfl | rfl <;> exact ⟨_, _, rfl, by decide, by decide, by decide +kernel, by decide⟩

/-! ### what is put between -/
/-- It is passed over. -/
def Skip (x : List UInt8) : Prop := (x.head?.map wLet).getD false = false ∧ ∀ a s, cutN a (x ++ s) = cutN (a + x.length) s
theorem Skip.app {x y : List UInt8} (h : Skip x) (h' : Skip y) (hx : x ≠ []) : Skip (x ++ y) := by
  refine ⟨?_, fun a s => ?_⟩
  · cases x with
    | nil => exact absurd rfl hx
    | cons c r => exact h.1
  · rw [List.append_assoc, h.2, h'.2, List.length_append, Nat.add_assoc]
theorem skip_blank {c : UInt8} (h : wBlank c = true) : Skip [c] := by
  refine ⟨?_, fun a s => cut_blank h⟩
  simp [wBlank] at h
  rcases h with rfl | rfl | rfl | rfl <;> rfl
theorem skip_remark {r : List UInt8} (h : r.all (fun x => decide (x ≠ 10)) = true) : Skip (35 :: (r ++ [10])) := by
  refine ⟨rfl, fun a s => ?_⟩
  have h' : ∀ x ∈ r, (fun x : UInt8 => decide (x ≠ 10)) x = true := by simpa using h
  rw [List.cons_append, cut_remark, List.append_assoc, List.takeWhile_append_of_pos h', List.dropWhile_append_of_pos h']
  have e1 : List.takeWhile (fun x : UInt8 => decide (x ≠ 10)) ([10] ++ s) = [] := by simp
  have e2 : List.dropWhile (fun x : UInt8 => decide (x ≠ 10)) ([10] ++ s) = 10 :: s := by simp
  rw [e1, e2, cut_blank rfl]
  congr 1; simp; omega
def kindsN (x : List Tok × Option Nat) : List Nat := x.1.map (·.K)
theorem kinds_at (l : List UInt8) (a b : Nat) : kindsN (cutN a l) = kindsN (cutN b l) ∧ (cutN a l).2.isSome = (cutN b l).2.isSome := by
  rw [cut_from l a, cut_from l b]
  simp [kindsN, shiftT, Function.comp_def]
theorem spread_gen {x : List UInt8} (hx : Skip x) (hne : x ≠ []) : ∀ (l : List UInt8) (a j : Nat) (t : Tok), (cutN a l).1[j]? = some t →
    kindsN (cutN a (l.take (t.T - a) ++ x ++ l.drop (t.T - a))) = kindsN (cutN a l) ∧ (cutN a (l.take (t.T - a) ++ x ++ l.drop (t.T - a))).2.isSome = (cutN a l).2.isSome := by
  refine cut_ind (P := fun a l => ∀ (j : Nat) (t : Tok), (cutN a l).1[j]? = some t →
    kindsN (cutN a (l.take (t.T - a) ++ x ++ l.drop (t.T - a))) = kindsN (cutN a l) ∧ (cutN a (l.take (t.T - a) ++ x ++ l.drop (t.T - a))).2.isSome = (cutN a l).2.isSome) ?_ ?_ ?_ ?_ ?_
  · intro a j t h; simp [cut_nil] at h
  · intro a c r hb ih j t h
    rw [cut_blank hb] at h ⊢
    have hm := cut_wordIs r (a + 1) t (List.mem_of_getElem? h)
    have := ih j t h
    rw [show t.T - a = (t.T - (a + 1)) + 1 by omega, List.take_succ_cons, List.drop_succ_cons, List.cons_append, List.cons_append, cut_blank hb]
    exact this
  · intro a r ih j t h
    rw [cut_remark] at h ⊢
    have hm := cut_wordIs _ _ t (List.mem_of_getElem? h)
    have := ih j t h
    have hsplit := List.takeWhile_append_dropWhile (p := fun x : UInt8 => decide (x ≠ 10)) (l := r)
    have htw := takeWhile_idem (p := fun x : UInt8 => decide (x ≠ 10)) (l := r)
    have hdl := dropWhile_len (fun x : UInt8 => decide (x ≠ 10)) r
    have hdh : ∃ d, r.dropWhile (fun x : UInt8 => decide (x ≠ 10)) = 10 :: d := by
      cases hd : r.dropWhile (fun x : UInt8 => decide (x ≠ 10)) with
      | nil => rw [hd] at hm; simp at hm; omega
      | cons y ys =>
        have := List.head?_dropWhile_not (fun x : UInt8 => decide (x ≠ 10)) r
        rw [hd] at this
        simp at this
        exact ⟨ys, by rw [this]⟩
    generalize hT : r.takeWhile (fun x : UInt8 => decide (x ≠ 10)) = tw at *
    generalize hD : r.dropWhile (fun x : UInt8 => decide (x ≠ 10)) = dw at *
    obtain ⟨d, rfl⟩ := hdh
    have htw' : ∀ x ∈ tw, (fun x : UInt8 => decide (x ≠ 10)) x = true := by simpa using htw
    obtain ⟨q, hq⟩ : ∃ q, t.T - (a + 1 + tw.length) = q + 1 := ⟨t.T - (a + 1 + tw.length) - 1, by omega⟩
    have e : (35 :: r).take (t.T - a) ++ x ++ (35 :: r).drop (t.T - a) = 35 :: (tw ++ ((10 :: d).take (t.T - (a + 1 + tw.length)) ++ x ++ (10 :: d).drop (t.T - (a + 1 + tw.length)))) := by
      rw [show t.T - a = (t.T - a - 1) + 1 by omega, List.take_succ_cons, List.drop_succ_cons, ← hsplit, List.take_append, List.drop_append, List.take_of_length_le (by omega), List.drop_eq_nil_of_le (by omega : tw.length ≤ _), show t.T - a - 1 - tw.length = t.T - (a + 1 + tw.length) by omega]
      simp
    rw [e, cut_remark, List.takeWhile_append_of_pos htw', List.dropWhile_append_of_pos htw']
    have e1 : List.takeWhile (fun x : UInt8 => decide (x ≠ 10)) ((10 :: d).take (t.T - (a + 1 + tw.length)) ++ x ++ (10 :: d).drop (t.T - (a + 1 + tw.length))) = [] := by
      rw [hq]; simp
    have e2 : List.dropWhile (fun x : UInt8 => decide (x ≠ 10)) ((10 :: d).take (t.T - (a + 1 + tw.length)) ++ x ++ (10 :: d).drop (t.T - (a + 1 + tw.length))) = (10 :: d).take (t.T - (a + 1 + tw.length)) ++ x ++ (10 :: d).drop (t.T - (a + 1 + tw.length)) := by
      rw [hq]; simp
    rw [e1, e2, List.append_nil]
    exact this
  · intro a c r hb hr hw j t h
    rw [cut_bad hb hr hw] at h; simp at h
  · intro a c r hb hr hw ih j t h
    have hcw := cut_word (a := a) hb hr hw
    obtain ⟨w1, w2, w3, w4⟩ := word_ext hw
    rw [hcw] at h
    cases j with
    | zero =>
      simp only [List.getElem?_cons_zero, Option.some.injEq] at h
      subst h
      simp only [Nat.add_sub_cancel_left]
      have hn : wordN ((c :: r).take (wordN (c :: r)).2 ++ x ++ (c :: r).drop (wordN (c :: r)).2) = wordN (c :: r) := by
        rw [List.append_assoc]
        refine w4 _ (.inr (.inr (.inr ?_)))
        cases x with
        | nil => exact absurd rfl hne
        | cons y ys => exact hx.1
      have hd : ((c :: r).take (wordN (c :: r)).2 ++ x ++ (c :: r).drop (wordN (c :: r)).2).drop (wordN (c :: r)).2 = x ++ (c :: r).drop (wordN (c :: r)).2 := by
        rw [List.append_assoc, List.drop_append, List.drop_eq_nil_of_le (by simp; omega), List.nil_append]
        rw [show (wordN (c :: r)).2 - ((c :: r).take (wordN (c :: r)).2).length = 0 by simp only [List.length_take]; omega]; rfl
      obtain ⟨r', hr'⟩ : ∃ r', (c :: r).take (wordN (c :: r)).2 ++ x ++ (c :: r).drop (wordN (c :: r)).2 = c :: r' := by
        obtain ⟨n, hn⟩ : ∃ n, (wordN (c :: r)).2 = n + 1 := ⟨(wordN (c :: r)).2 - 1, by omega⟩
        rw [hn]; exact ⟨_, rfl⟩
      rw [hr'] at hn hd ⊢
      rw [cut_word hb hr (by rw [hn]; exact hw), hn, hd, hcw, hx.2]
      have := kinds_at ((c :: r).drop (wordN (c :: r)).2) (a + (wordN (c :: r)).2 + x.length) (a + (wordN (c :: r)).2)
      simp only [kindsN, List.map_cons] at this ⊢
      exact ⟨by rw [this.1], this.2⟩
    | succ j =>
      simp only [List.getElem?_cons_succ] at h
      have hm := cut_wordIs _ _ t (List.mem_of_getElem? h)
      have := ih j t h
      have hp : (wordN (c :: r)).2 + 1 ≤ t.T - a := by omega
      have hlen : t.T - a ≤ (c :: r).length := by
        have := hm.2.2.1
        simp only [List.length_drop] at this; omega
      have hn : wordN ((c :: r).take (t.T - a) ++ x ++ (c :: r).drop (t.T - a)) = wordN (c :: r) := by
        refine word_alike hw ?_ (.inl ?_)
        · rw [List.append_assoc, List.take_append_of_le_length (by simp only [List.length_take]; omega), List.take_take]; congr 1; omega
        · rw [List.append_assoc, List.drop_append_of_le_length (by simp only [List.length_take]; omega), List.drop_take]
          rw [List.head?_append]
          rw [List.head?_take, if_neg (by omega)]
          obtain ⟨y, hy, hy2⟩ : ∃ y, ((c :: r).drop (wordN (c :: r)).2).head? = some y ∧ True := by
            rw [List.drop_eq_getElem_cons (by omega)]; exact ⟨_, rfl, trivial⟩
          rw [hy]; rfl
      have hd : ((c :: r).take (t.T - a) ++ x ++ (c :: r).drop (t.T - a)).drop (wordN (c :: r)).2 = ((c :: r).drop (wordN (c :: r)).2).take (t.T - (a + (wordN (c :: r)).2)) ++ x ++ ((c :: r).drop (wordN (c :: r)).2).drop (t.T - (a + (wordN (c :: r)).2)) := by
        rw [List.append_assoc, List.drop_append_of_le_length (by simp only [List.length_take]; omega), List.drop_take, List.drop_drop, List.append_assoc]
        rw [show t.T - a - (wordN (c :: r)).2 = t.T - (a + (wordN (c :: r)).2) by omega, show (wordN (c :: r)).2 + (t.T - (a + (wordN (c :: r)).2)) = t.T - a by omega]
      obtain ⟨r', hr'⟩ : ∃ r', (c :: r).take (t.T - a) ++ x ++ (c :: r).drop (t.T - a) = c :: r' := by
        obtain ⟨n, hn⟩ : ∃ n, t.T - a = n + 1 := ⟨t.T - a - 1, by omega⟩
        rw [hn]; exact ⟨_, rfl⟩
      rw [hr'] at hn hd ⊢
      rw [cut_word hb hr (by rw [hn]; exact hw), hn, hd, hcw]
      simp only [kindsN, List.map_cons] at this ⊢
      exact ⟨by rw [this.1], this.2⟩
end Go.Eng
