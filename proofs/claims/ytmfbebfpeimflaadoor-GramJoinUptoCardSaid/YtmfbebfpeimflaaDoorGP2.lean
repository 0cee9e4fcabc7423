/- Where a file is refused: the plain law. -/
import Derived.Test.YtmfbebfpeimflaaDoorGP
set_option linter.unusedVariables false
set_option linter.unusedSimpArgs false
namespace Go.Eng

/-- The words ahead of one. -/
theorem cut_upto : ∀ (l : List UInt8) (a : Nat) (j : Nat) (t : Tok), (cutN a l).1[j]? = some t → cutN a (l.take (t.F - a)) = ((cutN a l).1.take j, none) := by
  refine cut_ind (P := fun a l => ∀ (j : Nat) (t : Tok), (cutN a l).1[j]? = some t → cutN a (l.take (t.F - a)) = ((cutN a l).1.take j, none)) ?_ ?_ ?_ ?_ ?_
  · intro a j t h; simp [cut_nil] at h
  · intro a c r hb ih j t h
    rw [cut_blank hb] at h ⊢
    obtain ⟨h1, _, _, _⟩ := cut_wordIs r (a + 1) t (List.mem_of_getElem? h)
    rw [show t.F - a = (t.F - (a + 1)) + 1 by omega, List.take_succ_cons, cut_blank hb]
    exact ih j t h
  · intro a r ih j t h
    rw [cut_remark] at h ⊢
    obtain ⟨h1, _, _, _⟩ := cut_wordIs _ _ t (List.mem_of_getElem? h)
    obtain ⟨q1, q2⟩ := take_dropWhile (p := fun x : UInt8 => decide (x ≠ 10)) (l := r) (m := t.F - (a + 1)) (by omega)
    rw [show t.F - a = (t.F - (a + 1)) + 1 by omega, List.take_succ_cons, cut_remark, q1, q2, ← ih j t h]
    congr 2; omega
  · intro a c r hb hr hw j t h
    rw [cut_bad hb hr hw] at h; simp at h
  · intro a c r hb hr hw ih j t h
    rw [cut_word hb hr hw] at h ⊢
    obtain ⟨w1, w2, _, _⟩ := word_ext hw
    cases j with
    | zero =>
      simp only [List.getElem?_cons_zero, Option.some.injEq] at h
      subst h
      simp [cut_nil]
    | succ j =>
      simp only [List.getElem?_cons_succ] at h
      obtain ⟨h1, h2, h3, _⟩ := cut_wordIs _ _ t (List.mem_of_getElem? h)
      have e1 : (c :: r).take (t.F - a) = c :: r.take (t.F - a - 1) := by
        rw [show t.F - a = (t.F - a - 1) + 1 by omega, List.take_succ_cons]; rfl
      have hal : wordN ((c :: r).take (t.F - a)) = wordN (c :: r) := by
        refine word_alike hw ?_ ?_
        · rw [List.take_take]; congr 1; omega
        · rw [List.drop_take]
          rcases Nat.eq_zero_or_pos (t.F - a - (wordN (c :: r)).2) with h0 | h0
          · right; rw [h0]; simp
          · left
            rw [List.head?_take]; rw [if_neg (by omega)]
      have hd : ((c :: r).take (t.F - a)).drop (wordN (c :: r)).2 = ((c :: r).drop (wordN (c :: r)).2).take (t.F - (a + (wordN (c :: r)).2)) := by
        rw [List.drop_take]; congr 1; omega
      rw [e1] at hal hd ⊢
      rw [cut_word hb hr (by rw [hal]; exact hw), hal, hd, ih j t h, List.take_succ_cons]
theorem says_take {b : List UInt8} {n : Nat} {t : Tok} (h : t.T ≤ n) : saysN (b.take n) t = saysN b t := by
  unfold saysN
  rw [List.take_take, List.take_take, Nat.min_eq_left h, Nat.min_eq_left (by omega)]
theorem wordsOf_take {b : List UInt8} {n : Nat} {ts : List Tok} (h : ∀ t ∈ ts, t.T ≤ n) : wordsOf (b.take n) ts = wordsOf b ts :=
  List.map_congr_left fun t ht => by rw [says_take (h t ht)]
theorem read_len (l : List Wd) : (readN l).2.l.length ≤ l.length := lines_len _ _ _
/-- The law of the place. -/
theorem place_law {b : List UInt8} (h : (gparse b).2.2 = 150) : ∃ at_ : Nat, (gparse b).2.1 = (at_ : Int) ∧ at_ ≤ b.length ∧ ((gparse (b.take at_)).2.2 = 0 ∨ ((gparse (b.take at_)).2.2 = 150 ∧ (gparse (b.take at_)).2.1 = (at_ : Int))) := by
  by_cases hbig : 8192 < b.length
  · unfold gparse at h; rw [if_pos hbig] at h; cases h
  cases hc : (cutN 0 b).2 with
  | some e => unfold gparse at h; rw [if_neg hbig, hc] at h; cases h
  | none =>
    have e0 := gparse_ok (by omega) hc
    by_cases hb : (readN (wordsOf b (cutN 0 b).1)).2.bad = true
    case neg => rw [e0, saidN, if_neg hb] at h; cases h
    rw [saidN, if_pos hb, placeN] at e0
    have hrl := read_len (wordsOf b (cutN 0 b).1)
    have hwl : (wordsOf b (cutN 0 b).1).length = (cutN 0 b).1.length := by simp [wordsOf]
    have hj : ∃ j, j = (cutN 0 b).1.length - (readN (wordsOf b (cutN 0 b).1)).2.l.length := ⟨_, rfl⟩
    obtain ⟨j, hj⟩ := hj
    rw [← hj] at e0
    cases hd : (cutN 0 b).1.drop j with
    | nil =>
      rw [hd] at e0
      refine ⟨b.length, by rw [e0], Nat.le_refl _, ?_⟩
      rw [List.take_length, e0]
      exact .inr ⟨rfl, rfl⟩
    | cons t post =>
      rw [hd] at e0
      have ht : (cutN 0 b).1[j]? = some t := by
        have : ((cutN 0 b).1.drop j)[0]? = some t := by rw [hd]; rfl
        rwa [List.getElem?_drop] at this
      obtain ⟨h1, h2, h3, _⟩ := cut_wordIs b 0 t (List.mem_of_getElem? ht)
      have hcu := cut_upto b 0 j t ht
      rw [Nat.sub_zero] at hcu
      refine ⟨t.F, by rw [e0], by omega, ?_⟩
      have hlen : (b.take t.F).length = t.F := by rw [List.length_take]; omega
      have hT : ∀ u ∈ (cutN 0 b).1.take j, u.T ≤ t.F := fun u hu => by
        have := cut_wordIs (b.take t.F) 0 u (by rw [hcu]; exact hu)
        omega
      have e1 := gparse_ok (b := b.take t.F) (by omega) (by rw [hcu])
      rw [hcu] at e1
      simp only [wordsOf_take hT] at e1
      have hsplit : wordsOf b (cutN 0 b).1 = wordsOf b ((cutN 0 b).1.take j) ++ wordsOf b (t :: post) := by
        rw [← hd]
        unfold wordsOf
        rw [← List.map_append, List.take_append_drop]
      have hjl : j < (cutN 0 b).1.length := (List.getElem?_eq_some_iff.1 ht).1
      have hl1 : (wordsOf b ((cutN 0 b).1.take j)).length = j := by simp only [wordsOf, List.length_map, List.length_take]; omega
      have hsl : (wordsOf b (t :: post)).length = (cutN 0 b).1.length - j := by
        have := congrArg List.length hd
        simp only [List.length_drop, List.length_cons] at this
        simp only [wordsOf, List.length_map, List.length_cons]; omega
      have hnil : (readN (wordsOf b ((cutN 0 b).1.take j))).2.l = [] := by
        refine lines_ext (s := wordsOf b (t :: post)) (by simp [wordsOf]) _ _ _ (Nat.le_refl _) ?_
        have : (readN (wordsOf b (cutN 0 b).1)).2.l.length = (wordsOf b (t :: post)).length := by omega
        rw [hsplit] at this
        unfold readN at this
        rw [List.length_append] at this
        exact this
      rw [e1, saidN]
      split
      · rw [hnil, placeN]
        refine .inr ⟨rfl, ?_⟩
        simp only [List.length_nil, Nat.sub_zero, List.drop_length]
        rw [hlen]
      · exact .inl rfl
end Go.Eng
