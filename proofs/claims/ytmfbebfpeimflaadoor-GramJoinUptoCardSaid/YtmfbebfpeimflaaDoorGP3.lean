/- Two files, one behind the other: the plain law. -/
import Derived.Test.YtmfbebfpeimflaaDoorGP2
set_option linter.unusedVariables false
set_option linter.unusedSimpArgs false
namespace Go.Eng

/-! ### what is followed by more -/
/-- What leaves a word does not see those behind. -/
def Fol {α : Type} (s : List Wd) (g : Rd → α × Rd) (r : Rd) : Prop := (g r).2.l ≠ [] → g (r.ext s) = ((g r).1, (g r).2.ext s)
section
variable {s : List Wd}
theorem ne_len {α : Type} {l : List α} : l ≠ [] ↔ 0 < l.length := List.length_pos_iff.symm
theorem must_fol (k : Nat) (g : List UInt8) (r : Rd) (h : r.l ≠ []) : mustN k g (r.ext s) = ((mustN k g r).1, (mustN k g r).2.ext s) := by
  unfold mustN
  rw [is_ext h]
  split
  · rw [next_ext h]
    obtain ⟨l, b⟩ := r
    cases l with
    | nil => exact absurd rfl h
    | cons t l => rfl
  · rfl
theorem must_fol' (k : Nat) (g : List UInt8) (r : Rd) : Fol s (mustN k g) r := fun h => must_fol k g r (by
  have := must_len k g r
  rw [ne_len] at h ⊢; omega)
theorem namesL_fol : ∀ l, (namesL l).2 ≠ [] → namesL (l ++ s) = ((namesL l).1, (namesL l).2 ++ s)
  | [], h => absurd rfl h
  | t :: l, h => by
    simp only [List.cons_append, namesL] at h ⊢
    split
    · rename_i hk
      rw [if_pos hk] at h
      rw [namesL_fol l h]
    · rfl
theorem names_fol (r : Rd) : Fol s namesN r := by
  intro h
  unfold namesN at h ⊢
  have e : (r.ext s).bad = r.bad := rfl
  rw [e]
  split
  · rfl
  · rename_i hb
    rw [if_neg hb] at h
    rw [show (r.ext s).l = r.l ++ s from rfl, namesL_fol r.l h]
    rfl
theorem alt_fol (r : Rd) : Fol s altN r := by
  intro h
  have h1 : (namesN r).2.l ≠ [] := by
    rw [ne_len] at h ⊢
    unfold altN at h
    split at h
    · have h2 := must_len 1 [] (namesN r).2.next
      rw [next_len] at h2
      simp only at h; omega
    · exact h
  have e1 := names_fol (s := s) r h1
  unfold altN at h ⊢
  rw [e1]
  simp only
  rw [is_ext h1]
  split
  · rename_i hi
    rw [if_pos hi] at h
    rw [next_ext h1, must_fol' 1 [] _ h]
  · rfl
theorem altsF_fol : ∀ (n : Nat) (r : Rd), Fol s (altsF n) r
  | 0, r => by
    intro h
    simp only [altsF] at h ⊢
    rw [alt_fol r h]
  | n + 1, r => by
    intro h
    have h1 : (altN r).2.l ≠ [] := by
      rw [ne_len] at h ⊢
      simp only [altsF] at h
      split at h
      · have h2 := altsF_len n (altN r).2.next
        rw [next_len] at h2
        simp only at h; omega
      · exact h
    have e1 := alt_fol (s := s) r h1
    simp only [altsF] at h ⊢
    rw [e1]
    simp only
    rw [is_ext h1]
    split
    · rename_i hi
      rw [if_pos hi] at h
      rw [next_ext h1, altsF_fol n _ h]
    · rfl
theorem alts_fol (r : Rd) : Fol s altsN r := by
  intro h
  have e : altsN r = altsF (r.ext s).l.length r := by
    unfold altsN
    rw [altsF_more r.l.length (r.ext s).l.length r (Nat.le_refl _) (by simp [Rd.ext])]
  rw [e] at h ⊢
  exact altsF_fol _ r h
theorem rule_fol (r : Rd) : Fol s ruleN r := by
  intro h
  have h3 := alts_len (mustN 4 [58] (mustN 1 [] r).2).2
  have h2 := must_len 4 [58] (mustN 1 [] r).2
  simp only [ruleN] at h ⊢
  have h' := ne_len.1 h
  rw [must_fol' 1 [] r (ne_len.2 (by omega))]
  simp only
  rw [must_fol' 4 [58] (mustN 1 [] r).2 (ne_len.2 (by omega))]
  simp only
  rw [alts_fol _ h]
theorem term_fol (k : Bool) (r : Rd) : Fol s (termN k) r := by
  intro h
  have h3 := must_len 3 [] (mustN 4 [61] (mustN 1 [] r).2).2
  have h2 := must_len 4 [61] (mustN 1 [] r).2
  simp only [termN] at h ⊢
  have h' := ne_len.1 h
  rw [must_fol' 1 [] r (ne_len.2 (by omega))]
  simp only
  rw [must_fol' 4 [61] (mustN 1 [] r).2 (ne_len.2 (by omega))]
  simp only
  rw [must_fol' 3 [] _ h]
theorem prec_fol (k : Nat) (r : Rd) : Fol s (precN k) r := by
  intro h
  have h2 := names_len (mustN 1 [] r).2
  simp only [precN] at h ⊢
  have h' := ne_len.1 h
  rw [must_fol' 1 [] r (ne_len.2 (by omega))]
  simp only
  rw [names_fol _ h]
theorem body_fol (k : Nat) (f : Fl) (r : Rd) : Fol s (fun r => bodyN k r f) r := by
  intro h
  simp only [bodyN] at h ⊢
  split
  · rename_i c; rw [if_pos c] at h; rw [must_fol' 2 [] r h]
  · rename_i c; rw [if_neg c] at h
    split
    · rename_i c; rw [if_pos c] at h; rw [must_fol' 1 [] r h]
    · rename_i c; rw [if_neg c] at h
      split
      · rename_i c; rw [if_pos c] at h; rw [term_fol _ r h]
      · rename_i c; rw [if_neg c] at h
        split
        · rename_i c; rw [if_pos c] at h; rw [rule_fol r h]
        · rename_i c; rw [if_neg c] at h; rw [prec_fol k r h]
theorem must_bad {k : Nat} {g : List UInt8} {r : Rd} (h : (mustN k g r).2.bad = false) : isN k g r = true ∧ r.l ≠ [] ∧ r.bad = false := by
  unfold mustN at h
  split at h
  · rename_i hi
    obtain ⟨t, l, e⟩ := is_ne hi
    exact ⟨hi, by rw [e]; simp, by rw [e]⟩
  · cases h
theorem line_fol (t : Wd) (l : List Wd) (f : Fl) (h : (lineN t l f).2.bad = false) : lineN t (l ++ s) f = ((lineN t l f).1, (lineN t l f).2.ext s) := by
  unfold lineN at h ⊢
  split
  · rename_i c; rw [if_pos c] at h; cases h
  · rename_i c
    rw [if_neg c] at h
    obtain ⟨_, h2, _⟩ := must_bad h
    have e1 : bodyN t.K ⟨l ++ s, false⟩ f = ((bodyN t.K ⟨l, false⟩ f).1, (bodyN t.K ⟨l, false⟩ f).2.ext s) := body_fol t.K f ⟨l, false⟩ h2
    rw [e1]
    simp only
    rw [must_fol 4 [59] _ h2]
/-- Words that are a file, and more behind. -/
theorem lines_fol : ∀ (n : Nat) (l : List Wd) (f : Fl), l.length ≤ n → (linesN n ⟨l, false⟩ f).2.bad = false → linesN (n + s.length) ⟨l ++ s, false⟩ f = linesN s.length ⟨s, false⟩ (linesN n ⟨l, false⟩ f).1 := by
  intro n
  induction n with
  | zero =>
    intro l f hl h
    have : l = [] := List.length_eq_zero_iff.1 (by omega)
    subst this
    simp [linesN]
  | succ n ih =>
    intro l f hl h
    cases l with
    | nil =>
      have e : linesN (n + 1) ⟨[], false⟩ f = (f, ⟨[], false⟩) := lines_nil rfl
      rw [e]
      exact lines_more s.length _ _ f (Nat.le_refl _) (by omega)
    | cons t l =>
      simp only [List.length_cons] at hl
      rw [show n + 1 + s.length = (n + s.length) + 1 by omega]
      simp only [linesN, List.cons_append, Bool.false_eq_true, if_false] at h ⊢
      have hb : (lineN t l f).2.bad = false := by
        cases hb : (lineN t l f).2.bad with
        | false => rfl
        | true => rw [lines_bad hb] at h; rw [← h]; exact hb.symm
      rw [line_fol t l f hb]
      simp only
      have hb' : (lineN t l f).2 = ⟨(lineN t l f).2.l, false⟩ := by rw [← hb]
      rw [hb'] at h ⊢
      rcases line_len t l f with h1 | ⟨h1, h2⟩
      · exact ih (lineN t l f).2.l (lineN t l f).1 (Nat.le_trans h1 (by omega)) h
      · rw [hb] at h1; cases h1
end
/-! ### what is left is an end -/
theorem next_suf (r : Rd) : r.next.l <:+ r.l := List.tail_suffix _
theorem must_suf (k : Nat) (g : List UInt8) (r : Rd) : (mustN k g r).2.l <:+ r.l := by
  unfold mustN
  split
  · exact next_suf r
  · exact List.suffix_refl _
theorem namesL_suf : ∀ l, (namesL l).2 <:+ l
  | [] => List.suffix_refl _
  | t :: l => by
    simp only [namesL]
    split
    · exact (namesL_suf l).trans (List.suffix_cons t l)
    · exact List.suffix_refl _
theorem names_suf (r : Rd) : (namesN r).2.l <:+ r.l := by
  unfold namesN
  split
  · exact List.suffix_refl _
  · exact namesL_suf r.l
theorem alt_suf (r : Rd) : (altN r).2.l <:+ r.l := by
  unfold altN
  split
  · exact (must_suf 1 [] _).trans ((next_suf _).trans (names_suf r))
  · exact names_suf r
theorem altsF_suf : ∀ n r, (altsF n r).2.l <:+ r.l
  | 0, r => alt_suf r
  | n + 1, r => by
    simp only [altsF]
    split
    · exact (altsF_suf n _).trans ((next_suf _).trans (alt_suf r))
    · exact alt_suf r
theorem body_suf (k : Nat) (r : Rd) (f : Fl) : (bodyN k r f).2.l <:+ r.l := by
  unfold bodyN
  split
  · exact must_suf 2 [] r
  split
  · exact must_suf 1 [] r
  split
  · exact (must_suf 3 [] _).trans ((must_suf 4 [61] _).trans (must_suf 1 [] r))
  split
  · exact (altsF_suf _ _).trans ((must_suf 4 [58] _).trans (must_suf 1 [] r))
  · exact (names_suf _).trans (must_suf 1 [] r)
theorem line_suf (t : Wd) (l : List Wd) (f : Fl) : (lineN t l f).2.l <:+ t :: l := by
  unfold lineN
  split
  · exact List.suffix_refl _
  · exact ((must_suf 4 [59] _).trans (body_suf t.K ⟨l, false⟩ f)).trans (List.suffix_cons t l)
/-- Names say something. -/
def Good (l : List Wd) : Prop := ∀ t ∈ l, t.K = 1 → t.s ≠ []
theorem Good.suf {l l' : List Wd} (h : Good l) (hs : l' <:+ l) : Good l' := fun t ht => h t (hs.mem ht)
/-! ### what is there already -/
def joinN (f h : Fl) : Fl := ⟨f.I ++ h.I, if f.S = [] then h.S else f.S, f.T ++ h.T, f.P ++ h.P, f.R ++ h.R⟩
theorem join_none (f : Fl) : joinN f Fl.none = f := by
  obtain ⟨a, b, c, d, e⟩ := f
  simp only [joinN, Fl.none, List.append_nil]
  congr 1
  split
  · rename_i h; rw [h]
  · rfl
theorem body_join {k : Nat} {r : Rd} {f h : Fl} (hk : k = 6 → f.S = []) : bodyN k r (joinN f h) = (joinN f (bodyN k r h).1, (bodyN k r h).2) := by
  unfold bodyN
  split
  · simp [joinN]
  split
  · rename_i c; simp [joinN, hk c]
  split
  · simp [joinN]
  split
  · simp [joinN]
  · simp [joinN]
theorem bad_join {k : Nat} {f h : Fl} (hk : k = 6 → f.S = []) : badN k (joinN f h) = badN k h := by
  unfold badN
  by_cases c : k = 6
  · simp [joinN, hk c]
  · simp [c]
theorem line_join {t : Wd} {l : List Wd} {f h : Fl} (hk : t.K = 6 → f.S = []) : lineN t l (joinN f h) = (joinN f (lineN t l h).1, (lineN t l h).2) := by
  unfold lineN
  rw [bad_join hk]
  split
  · rfl
  · rw [body_join hk]
/-- A start stays. -/
theorem line_start {t : Wd} {l : List Wd} {h : Fl} (hb : (lineN t l h).2.bad = false) : (h.S ≠ [] → (lineN t l h).1.S = h.S) ∧ (t.K ≠ 6 → (lineN t l h).1.S = h.S) := by
  unfold lineN at hb ⊢
  split
  · exact ⟨fun _ => rfl, fun _ => rfl⟩
  · rename_i c
    have key : t.K ≠ 6 → (bodyN t.K ⟨l, false⟩ h).1.S = h.S := fun hk => by
      unfold bodyN
      rw [if_neg hk]
      split
      · rfl
      split
      · rfl
      split <;> rfl
    refine ⟨fun hs => key fun hk => c ?_, key⟩
    simp [badN, hk, hs]
theorem lines_start : ∀ (n : Nat) (r : Rd) (h : Fl), (linesN n r h).2.bad = false → h.S ≠ [] → (linesN n r h).1.S = h.S := by
  intro n
  induction n with
  | zero => intro r h hb hs; rfl
  | succ n ih =>
    intro r h hb hs
    simp only [linesN] at hb ⊢
    cases hl : r.l with
    | nil => rfl
    | cons t l =>
      rw [hl] at hb
      simp only at hb ⊢
      split
      · rfl
      · rename_i c
        rw [if_neg c] at hb
        have h1 : (lineN t l h).2.bad = false := by
          cases h1 : (lineN t l h).2.bad with
          | false => rfl
          | true => rw [lines_bad h1] at hb; rw [← hb]; exact h1.symm
        have h2 := (line_start h1).1 hs
        rw [ih _ _ hb (by rw [h2]; exact hs), h2]
/-- Lines behind a file: as from none, but for a second start. -/
theorem lines_join : ∀ (n : Nat) (r : Rd) (f h : Fl), r.l.length ≤ n → Good r.l → (linesN n r h).2.bad = false → (f.S = [] ∨ (linesN n r h).1.S = h.S → linesN n r (joinN f h) = (joinN f (linesN n r h).1, (linesN n r h).2)) ∧
    (f.S ≠ [] → (linesN n r h).1.S ≠ h.S → (linesN n r (joinN f h)).2.bad = true ∧ (linesN n r (joinN f h)).2.l ≠ []) := by
  intro n
  induction n with
  | zero => intro r f h hl hG hb; exact ⟨fun _ => rfl, fun _ h2 => absurd rfl h2⟩
  | succ n ih =>
    intro r f h hl hG hb
    simp only [linesN] at hb ⊢
    cases hrl : r.l with
    | nil => exact ⟨fun _ => rfl, fun _ h2 => absurd rfl h2⟩
    | cons t l =>
      rw [hrl] at hb hl hG
      simp only [List.length_cons] at hl
      simp only at hb ⊢
      split
      · rename_i c
        exact ⟨fun _ => rfl, fun _ h2 => absurd rfl h2⟩
      · rename_i c
        rw [if_neg c] at hb
        have h1 : (lineN t l h).2.bad = false := by
          cases h1 : (lineN t l h).2.bad with
          | false => rfl
          | true => rw [lines_bad h1] at hb; rw [← hb]; exact h1.symm
        have hG' : Good (lineN t l h).2.l := hG.suf (line_suf t l h)
        have hlen : (lineN t l h).2.l.length ≤ n := by
          rcases line_len t l h with h2 | ⟨h2, _⟩
          · omega
          · rw [h1] at h2; cases h2
        by_cases hk : t.K = 6
        · by_cases hf : f.S = []
          · rw [line_join (fun _ => hf)]
            obtain ⟨i1, i2⟩ := ih (lineN t l h).2 f (lineN t l h).1 hlen hG' hb
            exact ⟨fun _ => i1 (.inl hf), fun h3 => absurd hf h3⟩
          · have hbad : lineN t l (joinN f h) = (joinN f h, ⟨t :: l, true⟩) := by
              unfold lineN
              rw [if_pos (by simp [badN, joinN, hf, hk])]
            rw [hbad]
            have e : linesN n ⟨t :: l, true⟩ (joinN f h) = (joinN f h, ⟨t :: l, true⟩) := lines_bad rfl
            simp only [e]
            refine ⟨fun h3 => ?_, fun _ _ => by simp⟩
            exfalso
            rcases h3 with h3 | h3
            · exact hf h3
            · -- the start was read
              have hs0 : h.S = [] := by
                cases hs : h.S with
                | nil => rfl
                | cons x y =>
                  have : (lineN t l h).2.bad = true := by
                    unfold lineN
                    rw [if_pos (by simp [badN, hk, hs])]
                  rw [h1] at this; cases this
              have hs1 : (lineN t l h).1.S ≠ [] := by
                unfold lineN at h1 ⊢
                rw [if_neg (by simp [badN, hk, hs0])] at h1 ⊢
                obtain ⟨_, _, h4⟩ := must_bad h1
                simp only [bodyN, hk] at h4 ⊢
                simp only [show ¬ (6 : Nat) = 5 by decide, if_false, if_true] at h4 ⊢
                obtain ⟨h5, _, _⟩ := must_bad (k := 1) (g := []) (r := ⟨l, false⟩) h4
                unfold mustN
                rw [if_pos h5]
                obtain ⟨t', l', e'⟩ := is_ne h5
                simp only [Rd.mk.injEq, and_true] at e'
                subst e'
                have hk1 : t'.K = 1 := by simp [isN] at h5; exact h5
                exact hG t' (by simp) hk1
              have := lines_start n _ _ hb hs1
              rw [h3, hs0] at this
              exact hs1 this.symm
        · rw [line_join (fun h => absurd h hk)]
          have hs := (line_start h1).2 hk
          obtain ⟨i1, i2⟩ := ih (lineN t l h).2 f (lineN t l h).1 hlen hG' hb
          exact ⟨fun h3 => i1 (by rw [hs]; exact h3), fun h3 h4 => i2 h3 (by rw [hs]; exact h4)⟩
/-! ### the words of both -/
theorem cut_app : ∀ (l : List UInt8) (a : Nat) (s : List UInt8), (cutN a l).2 = none → cutN a (l ++ 10 :: s) = ((cutN a l).1 ++ (cutN (a + l.length + 1) s).1, (cutN (a + l.length + 1) s).2) := by
  refine cut_ind (P := fun a l => ∀ (s : List UInt8), (cutN a l).2 = none → cutN a (l ++ 10 :: s) = ((cutN a l).1 ++ (cutN (a + l.length + 1) s).1, (cutN (a + l.length + 1) s).2)) ?_ ?_ ?_ ?_ ?_
  · intro a s h
    rw [List.nil_append, cut_blank rfl, cut_nil]
    simp
  · intro a c r hb ih s h
    rw [cut_blank hb] at h
    rw [List.cons_append, cut_blank hb, ih s h, cut_blank hb]
    simp only [List.length_cons]
    rw [show a + 1 + r.length + 1 = a + (r.length + 1) + 1 by omega]
  · intro a r ih s h
    rw [cut_remark] at h
    have hl := dropWhile_len (fun x : UInt8 => decide (x ≠ 10)) r
    rw [List.cons_append, cut_remark, cut_remark]
    have e1 : (r ++ 10 :: s).takeWhile (fun x : UInt8 => decide (x ≠ 10)) = r.takeWhile (fun x : UInt8 => decide (x ≠ 10)) := by
      rw [← List.takeWhile_append_dropWhile (p := fun x : UInt8 => decide (x ≠ 10)) (l := r), List.append_assoc, List.takeWhile_append_of_pos (fun x hx => List.all_eq_true.1 (takeWhile_idem (p := fun x : UInt8 => decide (x ≠ 10)) (l := r)) x hx)]
      rw [List.takeWhile_append_dropWhile]
      have hd := List.head?_dropWhile_not (fun x : UInt8 => decide (x ≠ 10)) r
      cases hdw : r.dropWhile (fun x : UInt8 => decide (x ≠ 10)) with
      | nil => simp
      | cons x xs => rw [hdw] at hd; simp at hd; simp [hd]
    have e2 : (r ++ 10 :: s).dropWhile (fun x : UInt8 => decide (x ≠ 10)) = r.dropWhile (fun x : UInt8 => decide (x ≠ 10)) ++ 10 :: s := by
      conv => lhs; rw [← List.takeWhile_append_dropWhile (p := fun x : UInt8 => decide (x ≠ 10)) (l := r), List.append_assoc, List.dropWhile_append_of_pos (fun x hx => List.all_eq_true.1 (takeWhile_idem (p := fun x : UInt8 => decide (x ≠ 10)) (l := r)) x hx)]
      have hd := List.head?_dropWhile_not (fun x : UInt8 => decide (x ≠ 10)) r
      cases hdw : r.dropWhile (fun x : UInt8 => decide (x ≠ 10)) with
      | nil => simp
      | cons x xs => rw [hdw] at hd; simp at hd; simp [hd]
    rw [e1, e2, ih s h]
    simp only [List.length_cons]
    rw [show a + 1 + (r.takeWhile (fun x : UInt8 => decide (x ≠ 10))).length + (r.dropWhile (fun x : UInt8 => decide (x ≠ 10))).length + 1 = a + (r.length + 1) + 1 by omega]
  · intro a c r hb hr hw s h
    rw [cut_bad hb hr hw] at h; cases h
  · intro a c r hb hr hw ih s h
    rw [cut_word hb hr hw] at h ⊢
    obtain ⟨w1, w2, w3, w4⟩ := word_ext hw
    have hal : wordN (c :: (r ++ 10 :: s)) = wordN (c :: r) := by
      have e := w4 ((c :: r).drop (wordN (c :: r)).2 ++ 10 :: s) (by
        rcases w3 with h1 | h1 | h1 | h1
        · exact .inl h1
        · exact .inr (.inl h1)
        · exact .inr (.inr (.inl h1))
        · right; right; right
          cases hd : (c :: r).drop (wordN (c :: r)).2 with
          | nil => rfl
          | cons x xs => rw [hd] at h1; exact h1)
      rw [← List.append_assoc, List.take_append_drop] at e
      exact e
    have hd : (c :: (r ++ 10 :: s)).drop (wordN (c :: r)).2 = (c :: r).drop (wordN (c :: r)).2 ++ 10 :: s := by
      rw [← List.cons_append, List.drop_append_of_le_length w2]
    rw [List.cons_append, cut_word hb hr (by rw [hal]; exact hw), hal, hd, ih s h]
    simp only [List.length_drop, List.cons_append, List.length_cons] at w2 ⊢
    rw [show a + (wordN (c :: r)).2 + (r.length + 1 - (wordN (c :: r)).2) + 1 = a + (r.length + 1) + 1 by omega]
theorem says_left {b s : List UInt8} {t : Tok} (h : t.T ≤ b.length) : saysN (b ++ s) t = saysN b t := by
  unfold saysN
  rw [List.take_append_of_le_length (by omega), List.take_append_of_le_length h]
theorem says_right {p b : List UInt8} {t : Tok} (h : t.F < t.T) : saysN (p ++ b) (shiftT p.length t) = saysN b t := by
  unfold saysN shiftT
  simp only
  have e : ∀ n, (p ++ b).take (n + p.length) = p ++ b.take n := fun n => by
    rw [List.take_append, List.take_of_length_le (by omega)]; congr 2; omega
  have e2 : ∀ (x : List UInt8) n, (p ++ x).drop (n + p.length) = x.drop n := fun x n => by
    rw [List.drop_append, List.drop_eq_nil_of_le (by omega), List.nil_append]; congr 1; omega
  rw [show t.T + p.length - 1 = (t.T - 1) + p.length by omega, show t.F + p.length + 1 = (t.F + 1) + p.length by omega, e, e, e2, e2]
theorem good_words {b : List UInt8} : Good (wordsOf b (cutN 0 b).1) := by
  intro w hw hk
  obtain ⟨t, ht, rfl⟩ := List.mem_map.1 hw
  obtain ⟨_, h2, h3, h4⟩ := cut_wordIs b 0 t ht
  have hk' : t.K = 1 := hk
  have : saysN b t = (b.take t.T).drop t.F := by unfold saysN; rw [if_neg (by omega)]
  show saysN b t ≠ []
  rw [this, ne_len, List.length_drop, List.length_take]
  omega
theorem said_ok {ts : List Tok} {n : Nat} {x : Fl × Rd} (h : (saidN ts n x).2.2 = 0) : x.2.bad = false ∧ saidN ts n x = (x.1, 0, 0) := by
  unfold saidN at h ⊢
  cases hb : x.2.bad with
  | true => rw [hb] at h; cases h
  | false => exact ⟨rfl, rfl⟩
theorem gparse_inv {b : List UInt8} (h : (gparse b).2.2 = 0) : b.length ≤ 8192 ∧ (cutN 0 b).2 = none ∧ (readN (wordsOf b (cutN 0 b).1)).2.bad = false ∧ (gparse b).1 = (readN (wordsOf b (cutN 0 b).1)).1 := by
  by_cases hbig : 8192 < b.length
  · unfold gparse at h; rw [if_pos hbig] at h; cases h
  cases hc : (cutN 0 b).2 with
  | some e => unfold gparse at h; rw [if_neg hbig, hc] at h; cases h
  | none =>
    have e0 := gparse_ok (by omega) hc
    rw [e0] at h ⊢
    obtain ⟨h1, h2⟩ := said_ok h
    exact ⟨by omega, rfl, h1, by rw [h2]⟩
/-- The law of two files. -/
theorem join_law {a b : List UInt8} (hl : a.length + b.length + 1 ≤ 8192) (ha : (gparse a).2.2 = 0) (hb : (gparse b).2.2 = 0) :
    ((gparse a).1.S ≠ [] → (gparse b).1.S ≠ [] → (gparse (a ++ 10 :: b)).2.2 = 150 ∧ (a.length : Int) < (gparse (a ++ 10 :: b)).2.1) ∧
    ((gparse a).1.S = [] ∨ (gparse b).1.S = [] → gparse (a ++ 10 :: b) = (joinN (gparse a).1 (gparse b).1, 0, 0)) := by
  obtain ⟨a1, a2, a3, a4⟩ := gparse_inv ha
  obtain ⟨b1, b2, b3, b4⟩ := gparse_inv hb
  have hca := cut_app a 0 b a2
  rw [cut_from b] at hca
  rw [Nat.zero_add, b2] at hca
  simp only [Option.map_none] at hca
  have hlen : (a ++ 10 :: b).length = a.length + b.length + 1 := by simp; omega
  have e0 := gparse_ok (b := a ++ 10 :: b) (by omega) (by rw [hca])
  rw [hca] at e0
  simp only at e0
  have hw : wordsOf (a ++ 10 :: b) ((cutN 0 a).1 ++ (cutN 0 b).1.map (shiftT (a.length + 1))) = wordsOf a (cutN 0 a).1 ++ wordsOf b (cutN 0 b).1 := by
    unfold wordsOf
    rw [List.map_append, List.map_map]
    congr 1
    · refine List.map_congr_left fun t ht => ?_
      obtain ⟨_, _, h3, _⟩ := cut_wordIs a 0 t ht
      rw [says_left (by omega)]
    · refine List.map_congr_left fun t ht => ?_
      obtain ⟨_, h2, _, _⟩ := cut_wordIs b 0 t ht
      have e : a ++ 10 :: b = (a ++ [10]) ++ b := by simp
      have e' : a.length + 1 = (a ++ [10]).length := by simp
      simp only [Function.comp]
      rw [e, e', says_right h2]
      rfl
  rw [hw] at e0
  have hf : readN (wordsOf a (cutN 0 a).1 ++ wordsOf b (cutN 0 b).1) = linesN (wordsOf b (cutN 0 b).1).length ⟨wordsOf b (cutN 0 b).1, false⟩ (readN (wordsOf a (cutN 0 a).1)).1 := by
    have := lines_fol (s := wordsOf b (cutN 0 b).1) (wordsOf a (cutN 0 a).1).length (wordsOf a (cutN 0 a).1) Fl.none (Nat.le_refl _) a3
    unfold readN
    rw [List.length_append]
    exact this
  obtain ⟨j1, j2⟩ := lines_join (wordsOf b (cutN 0 b).1).length ⟨wordsOf b (cutN 0 b).1, false⟩ (readN (wordsOf a (cutN 0 a).1)).1 Fl.none (Nat.le_refl _) good_words b3
  rw [join_none] at j1 j2
  have hrb : linesN (wordsOf b (cutN 0 b).1).length ⟨wordsOf b (cutN 0 b).1, false⟩ Fl.none = readN (wordsOf b (cutN 0 b).1) := rfl
  rw [hrb] at j1 j2
  rw [a4, b4]
  constructor
  · intro h1 h2
    obtain ⟨k1, k2⟩ := j2 h1 (by show _ ≠ []; exact h2)
    rw [e0, hf, saidN, if_pos k1]
    refine ⟨rfl, ?_⟩
    have k3 := lines_len (wordsOf b (cutN 0 b).1).length ⟨wordsOf b (cutN 0 b).1, false⟩ (readN (wordsOf a (cutN 0 a).1)).1
    have k4 := ne_len.1 k2
    generalize (linesN (wordsOf b (cutN 0 b).1).length ⟨wordsOf b (cutN 0 b).1, false⟩ (readN (wordsOf a (cutN 0 a).1)).1).2.l.length = n at *
    have k5 : n ≤ (cutN 0 b).1.length := by simpa [wordsOf] using k3
    have hdr : ((cutN 0 a).1 ++ (cutN 0 b).1.map (shiftT (a.length + 1))).drop (((cutN 0 a).1 ++ (cutN 0 b).1.map (shiftT (a.length + 1))).length - n) = ((cutN 0 b).1.drop ((cutN 0 b).1.length - n)).map (shiftT (a.length + 1)) := by
      rw [List.length_append, List.length_map, List.drop_append, List.drop_eq_nil_of_le (by omega), List.nil_append, List.map_drop]
      congr 1; omega
    simp only [placeN, hdr]
    obtain ⟨t, post, ht⟩ : ∃ t post, (cutN 0 b).1.drop ((cutN 0 b).1.length - n) = t :: post := by
      cases hd : (cutN 0 b).1.drop ((cutN 0 b).1.length - n) with
      | nil =>
        have h9 := congrArg List.length hd
        simp only [List.length_drop, List.length_nil] at h9
        omega
      | cons t post => exact ⟨t, post, rfl⟩
    rw [ht]
    simp only [List.map_cons, shiftT]
    omega
  · intro h
    have k1 := j1 (by rcases h with h | h; exact .inl h; exact .inr h)
    rw [e0, hf, k1, saidN]
    simp only [b3]
    rfl
end Go.Eng
