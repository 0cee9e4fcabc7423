import Derived.Test.YtimhmmeoliagjaaDoorYR
/- What is written is read as it was. -/
set_option linter.unusedVariables false
set_option linter.unusedSimpArgs false
namespace Go.Eng

theorem dgt_hex {n : Nat} (h : n < 16) : dgt (hexN n) = n := by
  have : ∀ n, n < 16 → dgt (hexN n) = n := by decide
  exact this n h
theorem esc_ne {c : Nat} (h : c ∈ escL) : c ≠ 110 ∧ c ≠ 116 ∧ c ≠ 114 := by
  simp only [escL, List.mem_cons, List.not_mem_nil, or_false] at h; omega
theorem byte_read {no : List Nat} (h92 : 92 ∈ no) {c : Nat} (hc : c < 256) (r : List Nat) : letR no (byteN no c ++ r) = .ok (c, r) := by
  unfold byteN
  by_cases h1 : c = 10
  · subst h1; rfl
  rw [if_neg h1]
  by_cases h2 : c = 9
  · subst h2; rfl
  rw [if_neg h2]
  by_cases h3 : c = 13
  · subst h3; rfl
  rw [if_neg h3]
  by_cases h4 : 32 ≤ c ∧ c ≤ 126 ∧ c ∉ no
  · rw [if_pos h4]
    show letR no (c :: r) = _
    rw [letR, if_neg (fun he => h4.2.2 (by rw [he]; exact h92)), if_neg (by rintro (h | h | h) <;> first | omega | exact h4.2.2 h)]
  rw [if_neg h4]
  by_cases h5 : c ∈ escL
  · rw [if_pos h5]
    show letR no (92 :: c :: r) = _
    obtain ⟨e1, e2, e3⟩ := esc_ne h5
    rw [letR, if_pos rfl, escR, if_neg e1, if_neg e2, if_neg e3, if_pos h5]
  rw [if_neg h5]
  show letR no (92 :: 120 :: hexN (c / 16) :: hexN (c % 16) :: r) = _
  rw [letR, if_pos rfl, escR, if_neg (by decide), if_neg (by decide), if_neg (by decide), if_neg (by decide), if_pos rfl]
  have d1 := dgt_hex (n := c / 16) (by omega)
  have d2 := dgt_hex (n := c % 16) (by omega)
  simp only [hex2, hex1, d1, d2]
  rw [if_pos (by omega)]
  simp only
  rw [if_pos (by omega)]
  simp only
  congr 2; omega
theorem byte_head (no : List Nat) (c : Nat) : ∃ h r, byteN no c = h :: r ∧ (h = 92 ∨ h ∉ no) := by
  unfold byteN
  repeat' split
  all_goals first
    | exact ⟨_, _, rfl, .inl rfl⟩
    | (rename_i h; exact ⟨_, _, rfl, .inr h.2.2⟩)
theorem mem_dropJ {l : List Nat} {i c : Nat} : c ∈ l.drop i ↔ ∃ j, i ≤ j ∧ j < l.length ∧ l.getD j 0 = c := by
  rw [List.mem_iff_getElem]
  constructor
  · rintro ⟨j, h, e⟩
    rw [List.length_drop] at h
    refine ⟨i + j, by omega, by omega, ?_⟩
    rw [List.getD_eq_getElem?_getD, List.getElem?_eq_getElem (by omega)]
    rw [List.getElem_drop] at e
    exact e
  · rintro ⟨j, h1, h2, e⟩
    refine ⟨j - i, by rw [List.length_drop]; omega, ?_⟩
    rw [List.getElem_drop]
    rw [List.getD_eq_getElem?_getD, List.getElem?_eq_getElem h2] at e
    simp only [show i + (j - i) = j by omega]
    exact e

theorem setL_sorted (s : Nat) : (setL s).Pairwise (· < ·) := by
  rw [setL_eq]
  exact List.Pairwise.filter _ List.pairwise_lt_range
theorem run_step (l : List Nat) : ∀ (f k j : Nat), k ≤ j → j < runE l f k → l.getD (j + 1) 0 = (l.getD j 0 + 1) % 256
  | 0, k, j, h1, h2 => by rw [runE] at h2; omega
  | f + 1, k, j, h1, h2 => by
    rw [runE] at h2
    split at h2
    · rename_i hc
      by_cases he : j = k
      · subst he; exact hc.2
      · exact run_step l f (k + 1) j (by omega) h2
    · omega
section
variable {l : List Nat} (hs : l.Pairwise (· < ·)) (hb : ∀ c ∈ l, c < 256)
include hs hb
omit hb in
theorem sorted_lt {i j : Nat} (h : i < j) (hj : j < l.length) : l.getD i 0 < l.getD j 0 := by
  rw [List.getD_eq_getElem?_getD, List.getD_eq_getElem?_getD, List.getElem?_eq_getElem (by omega), List.getElem?_eq_getElem hj]
  exact List.pairwise_iff_getElem.1 hs i j (by omega) hj h
omit hs in
theorem val_lt {j : Nat} (hj : j < l.length) : l.getD j 0 < 256 := by
  rw [List.getD_eq_getElem?_getD, List.getElem?_eq_getElem hj]
  exact hb _ (List.getElem_mem hj)
theorem run_val {i : Nat} (hi : i < l.length) : ∀ d, i + d ≤ runE l l.length i → l.getD (i + d) 0 = l.getD i 0 + d
  | 0, _ => rfl
  | d + 1, h => by
    have ih := run_val hi d (by omega)
    have hk := runE_lt l l.length i hi
    have h1 := run_step l l.length i (i + d) (by omega) (by omega)
    have h2 := sorted_lt hs (show i + d < i + (d + 1) by omega) (by omega)
    have h3 := val_lt hb (j := i + (d + 1)) (by omega)
    rw [← Nat.add_assoc] at h2 h3 ⊢
    rw [h1] at h2 h3 ⊢
    omega
theorem cls_read {r : List Nat} : ∀ (F i f : Nat) (first : Bool) (acc : Nat), l.length < F + i → (listN (byteN classL) l F i).length + 1 ≤ f → i ≤ l.length → (first = true → i < l.length) →
    ∃ s, clsL f first acc (listN (byteN classL) l F i ++ 93 :: r) = .ok (s, r) ∧ ∀ c, s.testBit c = (acc.testBit c || decide (c ∈ l.drop i)) := by
  intro F
  induction F with
  | zero => intro i f first acc h1 h2 h3 h4; omega
  | succ F ih =>
    intro i f first acc h1 h2 h3 h4
    obtain ⟨f, rfl⟩ : ∃ g, f = g + 1 := ⟨f - 1, by omega⟩
    rw [listN] at h2 ⊢
    by_cases hi : i < l.length
    · rw [if_pos hi] at h2 ⊢
      obtain ⟨k, hk⟩ : ∃ k, runE l l.length i = k := ⟨_, rfl⟩
      have hik := runE_le l l.length i
      have hkl := runE_lt l l.length i hi
      have hrv := fun d => run_val hs hb hi d
      rw [hk] at h2 hik hkl hrv ⊢
      have hv := val_lt hb hi
      have hvk := val_lt hb hkl
      obtain ⟨hd, tl, ehd, hhd⟩ := byte_head classL (l.getD i 0)
      have nh : hd ≠ 93 := by
        rcases hhd with rfl | h
        · decide
        · intro he; subst he; exact h (by decide)
      by_cases h2k : 2 ≤ k - i
      · rw [if_pos h2k] at h2 ⊢
        simp only [List.length_append, List.length_cons] at h2
        have hlen1 : 0 < (byteN classL (l.getD i 0)).length := by rw [ehd]; simp
        obtain ⟨s, r1, r2⟩ := ih (k + 1) f false (acc ||| spanS (l.getD i 0) (l.getD k 0)) (by omega) (by omega) (by omega) (by simp)
        refine ⟨s, ?_, fun c => ?_⟩
        · have e1 : (byteN classL (l.getD i 0) ++ 45 :: (byteN classL (l.getD k 0) ++ listN (byteN classL) l F (k + 1)) ++ 93 :: r) = byteN classL (l.getD i 0) ++ (45 :: (byteN classL (l.getD k 0) ++ (listN (byteN classL) l F (k + 1) ++ 93 :: r))) := by simp
          rw [clsL, if_neg (by rw [ehd]; rintro ⟨_, hh⟩; simp at hh; exact nh hh), e1, byte_read (by decide) hv]
          simp only [List.head?_cons, if_true, List.tail_cons]
          rw [byte_read (by decide) hvk]
          simp only
          have hkk := hrv (k - i) (by omega)
          rw [show i + (k - i) = k by omega] at hkk
          rw [if_neg (by omega)]
          exact r1
        · rw [r2, Nat.testBit_or, spanS_bit, Bool.or_assoc]
          congr 1
          have hkk := hrv (k - i) (by omega)
          rw [show i + (k - i) = k by omega] at hkk
          rw [Bool.eq_iff_iff]
          simp only [Bool.or_eq_true, decide_eq_true_eq, mem_dropJ]
          constructor
          · rintro (⟨ha, hb'⟩ | ⟨j, a, b, d⟩)
            · refine ⟨i + (c - l.getD i 0), by omega, by omega, ?_⟩
              rw [hrv _ (by omega)]; omega
            · exact ⟨j, by omega, b, d⟩
          · rintro ⟨j, a, b, d⟩
            by_cases hj : j ≤ k
            · left
              have := hrv (j - i) (by omega)
              rw [show i + (j - i) = j by omega] at this
              omega
            · exact .inr ⟨j, by omega, b, d⟩
      · rw [if_neg h2k] at h2 ⊢
        simp only [List.length_append] at h2
        have hlen1 : 0 < (byteN classL (l.getD i 0)).length := by rw [ehd]; simp
        obtain ⟨s, r1, r2⟩ := ih (i + 1) f false (acc ||| spanS (l.getD i 0) (l.getD i 0)) (by omega) (by omega) (by omega) (by simp)
        refine ⟨s, ?_, fun c => ?_⟩
        · have e1 : (byteN classL (l.getD i 0) ++ listN (byteN classL) l F (i + 1) ++ 93 :: r) = byteN classL (l.getD i 0) ++ (listN (byteN classL) l F (i + 1) ++ 93 :: r) := by simp
          rw [clsL, if_neg (by rw [ehd]; rintro ⟨_, hh⟩; simp at hh; exact nh hh), e1, byte_read (by decide) hv]
          simp only
          have hno : ¬ (listN (byteN classL) l F (i + 1) ++ 93 :: r).head? = some 45 := by
            cases F with
            | zero => rw [listN]; simp
            | succ F =>
              rw [listN]
              split
              · obtain ⟨hd', tl', ehd', hhd'⟩ := byte_head classL (l.getD (i + 1) 0)
                have : hd' ≠ 45 := by
                  rcases hhd' with rfl | h
                  · decide
                  · intro he; subst he; exact h (by decide)
                split
                · rw [ehd']; simpa using this
                · rw [ehd']; simpa using this
              · simp
          rw [if_neg hno]
          exact r1
        · rw [r2, Nat.testBit_or, spanS_bit, Bool.or_assoc]
          congr 1
          rw [Bool.eq_iff_iff]
          simp only [Bool.or_eq_true, decide_eq_true_eq, mem_dropJ]
          constructor
          · rintro (⟨ha, hb'⟩ | ⟨j, a, b, d⟩)
            · exact ⟨i, by omega, hi, by omega⟩
            · exact ⟨j, by omega, b, d⟩
          · rintro ⟨j, a, b, d⟩
            by_cases hj : j = i
            · subst hj; left; omega
            · exact .inr ⟨j, by omega, b, d⟩
    · obtain rfl : i = l.length := by omega
      rw [if_neg hi, clsL]
      have hf : first = false := by
        cases first with
        | false => rfl
        | true => have := h4 rfl; omega
      rw [if_pos ⟨hf, rfl⟩]
      refine ⟨acc, rfl, fun c => ?_⟩
      rw [List.drop_length, decide_eq_false (List.not_mem_nil), Bool.or_false]
end
theorem bits_ext {s t : Nat} (hs : s < 2 ^ 256) (h : ∀ c, t.testBit c = decide (c < 256 ∧ s.testBit c = true)) : t = s := by
  apply Nat.eq_of_testBit_eq
  intro c
  rw [h]
  by_cases hc : c < 256
  · simp [hc]
  · have : s.testBit c = false := Nat.testBit_lt_two_pow (Nat.lt_of_lt_of_le hs (Nat.pow_le_pow_right (by decide) (by omega)))
    simp [hc, this]
theorem cls_set {s : Nat} (hs : s < 2 ^ 256) (h0 : 0 < (setL s).length) {f : Nat} (hf : (clsN s).length + 1 ≤ f) (r : List Nat) : clsL f true 0 (clsN s ++ 93 :: r) = .ok (s, r) := by
  obtain ⟨t, h1, h2⟩ := cls_read (setL_sorted s) (fun c hc => (setL_mem.1 hc).1) (r := r) 257 0 f true 0 (by have := setL_len s; omega) hf (Nat.zero_le _) (fun _ => h0)
  have : t = s := bits_ext hs fun c => by
    rw [h2, Nat.zero_testBit, Bool.false_or, decide_eq_decide, List.drop_zero, setL_mem]
  rw [this] at h1
  exact h1
theorem notS_notS {s : Nat} : notS (notS s) = s := by
  unfold notS; rw [Nat.xor_assoc, Nat.xor_self, Nat.xor_zero]
theorem cls_head {s : Nat} (h0 : 0 < (setL s).length) : ∃ h r, clsN s = h :: r ∧ h ≠ 94 := by
  unfold clsN
  rw [listN, if_pos h0]
  obtain ⟨hd, tl, ehd, hhd⟩ := byte_head classL ((setL s).getD 0 0)
  have nh : hd ≠ 94 := by
    rcases hhd with rfl | h
    · decide
    · intro he; subst he; exact h (by decide)
  split
  · rw [ehd]; exact ⟨hd, _, rfl, nh⟩
  · rw [ehd]; exact ⟨hd, _, rfl, nh⟩
theorem not_len {s : Nat} (h : (setL s).length < 256) : 0 < (setL (notS s)).length := by
  apply List.length_pos_of_mem (a := (List.range 256).find? (fun c => !s.testBit c) |>.getD 0)
  have : ∃ c, c < 256 ∧ s.testBit c = false := Classical.byContradiction fun hn => by
    have hall : ∀ c ∈ List.range 256, s.testBit c = true := fun c hc => Classical.byContradiction fun hb => hn ⟨c, List.mem_range.1 hc, by simpa using hb⟩
    have : setL s = List.range 256 := by rw [setL_eq]; exact List.filter_eq_self.2 hall
    rw [this, List.length_range] at h; omega
  obtain ⟨c, hc1, hc2⟩ := this
  have hsome : ((List.range 256).find? (fun c => !s.testBit c)).isSome := by
    rw [List.find?_isSome]
    exact ⟨c, List.mem_range.2 hc1, by simp [hc2]⟩
  obtain ⟨d, hd⟩ := Option.isSome_iff_exists.1 hsome
  rw [hd]
  have h1 := List.mem_of_find?_eq_some hd
  have h2 := List.find?_some hd
  rw [setL_mem]
  refine ⟨List.mem_range.1 h1, ?_⟩
  rw [notS_bit]
  have := List.mem_range.1 h1
  simp only [Option.getD_some]
  simp only [Bool.not_eq_true'] at h2
  rw [h2]; simp [this]
theorem set_read {s : Nat} (hs : s < 2 ^ 256) {f : Nat} (hf : 1 ≤ f) (r : List Nat) : atomR f (setN s ++ r) = .ok (.set s, r) := by
  obtain ⟨f, rfl⟩ : ∃ g, f = g + 1 := ⟨f - 1, by omega⟩
  have neg : (setL s).length < 256 → atomR (f + 1) ((91 :: 94 :: clsN (notS s) ++ [93]) ++ r) = .ok (.set s, r) := fun h => by
    have e : ((91 :: 94 :: clsN (notS s) ++ [93]) ++ r) = 91 :: 94 :: (clsN (notS s) ++ 93 :: r) := by simp
    rw [e]
    show (match clsR (94 :: (clsN (notS s) ++ 93 :: r)) with | .error e => Except.error e | .ok (s, r2) => Except.ok (Rx.set s, r2)) = _
    have : clsR (94 :: (clsN (notS s) ++ 93 :: r)) = .ok (s, r) := by
      unfold clsR
      rw [if_pos (show (94 :: (clsN (notS s) ++ 93 :: r)).head? = some 94 from rfl), List.tail_cons, cls_set (notS_lt hs) (not_len h) (by simp; omega)]
      simp only [notS_notS]
    rw [this]
  unfold setN
  by_cases h0 : (setL s).length = 0
  · rw [if_pos h0]; exact neg (by omega)
  rw [if_neg h0]
  by_cases h1 : (setL s).length = 1
  · rw [if_pos h1]
    obtain ⟨c, hc⟩ := List.length_eq_one_iff.1 h1
    rw [hc]
    have hcm : c ∈ setL s := by rw [hc]; simp
    have hc256 := (setL_mem.1 hcm).1
    have hset : ofS [c] = s := bits_ext hs fun d => by
      rw [ofS_bit, decide_eq_decide, ← setL_mem, hc]
    obtain ⟨hd, tl, ehd, hhd⟩ := byte_head signsL c
    have hrd := byte_read (no := signsL) (by decide) hc256 r
    have n1 : hd ≠ 40 ∧ hd ≠ 46 ∧ hd ≠ 91 := by
      rcases hhd with rfl | h
      · decide
      · refine ⟨?_, ?_, ?_⟩ <;> (intro he; subst he; exact h (by decide))
    simp only [List.headD_cons]
    rw [ehd] at hrd ⊢
    rw [atomR]
    · rw [hrd]; simp only [hset]
    · intro r1 he; simp at he; exact n1.1 he.1
    · intro r1 he; simp at he; exact n1.2.1 he.1
    · intro r1 he; simp at he; exact n1.2.2 he.1
  rw [if_neg h1]
  by_cases h2 : sameS s (notS (ofS [10]))
  · rw [if_pos h2]
    have : s = notS (ofS [10]) := (sameS_eq hs (notS_lt (ofS_lt (by simp)))).1 h2
    show atomR (f + 1) (46 :: r) = _
    rw [atomR, ← this]
  rw [if_neg h2]
  by_cases h3 : 128 < (setL s).length ∧ (setL s).length < 256
  · rw [if_pos h3]; exact neg h3.2
  rw [if_neg h3]
  have e : ((91 :: clsN s ++ [93]) ++ r) = 91 :: (clsN s ++ 93 :: r) := by simp
  rw [e]
  show (match clsR (clsN s ++ 93 :: r) with | .error e => Except.error e | .ok (s, r2) => Except.ok (Rx.set s, r2)) = _
  have : clsR (clsN s ++ 93 :: r) = .ok (s, r) := by
    obtain ⟨hd, tl, ehd, nh⟩ := cls_head (s := s) (by omega)
    unfold clsR
    rw [if_neg (by rw [ehd]; simpa using nh)]
    exact cls_set hs (by omega) (by simp) r
  rw [this]
end Go.Eng

/- A tree that is written is read as it was. -/
set_option linter.unusedVariables false
set_option linter.unusedSimpArgs false
namespace Go.Eng

def tx43 (t : Rx) : List Nat := brk [4, 3] t (prT t)
def tx4 (t : Rx) : List Nat := brk [4] t (prT t)
def noPost (r : List Nat) : Prop := ∀ c, r.head? = some c → c ≠ 63 ∧ c ≠ 43 ∧ c ≠ 42
theorem post_no {t : Rx} {r : List Nat} (h : noPost r) : postR t r = (t, r) := by
  cases r with
  | nil => rw [postR]
  | cons c r =>
    obtain ⟨h1, h2, h3⟩ := h c rfl
    rw [postR, if_neg h1, if_neg h2, if_neg h3]
def GH (l : List Nat) : Prop := ∃ c r, l = c :: r ∧ c ≠ 63 ∧ c ≠ 43 ∧ c ≠ 42 ∧ c ≠ 124 ∧ c ≠ 41
theorem GH.app {l : List Nat} (h : GH l) (r : List Nat) : GH (l ++ r) := by
  obtain ⟨c, r', rfl, h⟩ := h
  exact ⟨c, r' ++ r, rfl, h⟩
theorem GH.noPost {l : List Nat} (h : GH l) : noPost l := by
  obtain ⟨c, r', rfl, h1, h2, h3, _⟩ := h
  intro d hd
  simp only [List.head?_cons, Option.some.injEq] at hd
  subst hd
  exact ⟨h1, h2, h3⟩
theorem GH.pos {l : List Nat} (h : GH l) : 0 < l.length := by
  obtain ⟨c, r', rfl, _⟩ := h
  simp
theorem gh_set (s : Nat) : GH (setN s) := by
  unfold setN
  repeat' split
  · exact ⟨91, _, rfl, by decide⟩
  · obtain ⟨h, r, e, hh⟩ := byte_head signsL ((setL s).headD 0)
    rw [e]
    refine ⟨h, r, rfl, ?_⟩
    rcases hh with rfl | hh
    · decide
    · refine ⟨?_, ?_, ?_, ?_, ?_⟩ <;> (intro he; subst he; exact hh (by decide))
  · exact ⟨46, _, rfl, by decide⟩
  · exact ⟨91, _, rfl, by decide⟩
  · exact ⟨91, _, rfl, by decide⟩
theorem gh_brk {ks : List Int} {t : Rx} {x : List Nat} (h : GH x) : GH (brk ks t x) := by
  unfold brk; split
  · exact ⟨40, _, rfl, by decide⟩
  · exact h
theorem gh_prT : ∀ t : Rx, GH (prT t)
  | .nil => ⟨40, [41], rfl, by decide⟩
  | .set s => gh_set s
  | .seq a b => (gh_brk (gh_prT a)).app _
  | .alt a b => (gh_prT a).app _
  | .star a => (gh_brk (gh_prT a)).app _
  | .plus a => (gh_brk (gh_prT a)).app _
theorem gh43 (t : Rx) : GH (tx43 t) := gh_brk (gh_prT t)
theorem gh4 (t : Rx) : GH (tx4 t) := gh_brk (gh_prT t)
theorem gh_way {l : List Nat} (h : GH l) : ¬ (l = [] ∨ l.head? = some 124 ∨ l.head? = some 41) := by
  obtain ⟨c, r, rfl, _, _, _, h4, h5⟩ := h
  rintro (h | h | h)
  · cases h
  · exact h4 (by simpa using h)
  · exact h5 (by simpa using h)
def stopR (r : List Nat) : Prop := r = [] ∨ r.head? = some 124 ∨ r.head? = some 41
theorem stop_noPost {r : List Nat} (h : stopR r) : noPost r := by
  intro c hc
  rcases h with rfl | h | h
  · cases hc
  · rw [hc] at h; injection h with h; subst h; decide
  · rw [hc] at h; injection h with h; subst h; decide
def PA (t : Rx) : Prop := ∀ f rest, 4 * (tx43 t).length ≤ f → ∃ t0 r0, atomR f (tx43 t ++ rest) = .ok (t0, r0) ∧ postR t0 r0 = postR t rest
def PW (t : Rx) : Prop := ∀ f R, 4 * (tx4 t).length + 1 ≤ f → noPost R → ∃ f', f ≤ f' + 4 * (tx4 t).length ∧ wayL f none (tx4 t ++ R) = wayL f' (some t) R
def PV (t : Rx) : Prop := ∀ f R, 4 * (prT t).length + 3 ≤ f → stopR R → ∃ f', f ≤ f' + 4 * (prT t).length + 2 ∧ waysR f (prT t ++ R) = waysL f' t R
theorem way_end {t : Rx} {R : List Nat} (h : stopR R) {f : Nat} (hf : 1 ≤ f) : wayL f (some t) R = .ok (t, R) := by
  obtain ⟨f, rfl⟩ : ∃ g, f = g + 1 := ⟨f - 1, by omega⟩
  rw [wayL, if_pos (show R = [] ∨ R.head? = some 124 ∨ R.head? = some 41 from h)]; rfl
theorem way_step {t : Rx} (hA : PA t) {x : Option Rx} {R : List Nat} (hR : noPost R) {f : Nat} (hf : 4 * (tx43 t).length ≤ f) :
    wayL (f + 1) x (tx43 t ++ R) = wayL f (some (match x with | none => t | some x => .seq x t)) R := by
  obtain ⟨t0, r0, h1, h2⟩ := hA f R hf
  rw [wayL, if_neg (gh_way ((gh43 t).app R)), h1]
  simp only [h2, post_no hR]
  cases x <;> rfl
theorem pw_of {t : Rx} (hA : PA t) (he : tx4 t = tx43 t) : PW t := fun f R hf hR => by
  rw [he] at hf ⊢
  obtain ⟨f, rfl⟩ : ∃ g, f = g + 1 := ⟨f - 1, by omega⟩
  have := (gh43 t).pos
  exact ⟨f, by omega, way_step hA hR (by omega)⟩
theorem pv_of {t : Rx} (hW : PW t) (he : tx4 t = prT t) : PV t := fun f R hf hR => by
  rw [← he] at hf ⊢
  obtain ⟨f, rfl⟩ : ∃ g, f = g + 1 := ⟨f - 1, by omega⟩
  obtain ⟨f', h1, h2⟩ := hW f R (by omega) (stop_noPost hR)
  refine ⟨f, by omega, ?_⟩
  rw [waysR, h2, way_end hR (by omega)]
theorem pa_of {t : Rx} (hV : PV t) (he : tx43 t = 40 :: (prT t ++ [41])) : PA t := fun f rest hf => by
  rw [he] at hf ⊢
  simp only [List.length_cons, List.length_append, List.length_nil] at hf
  obtain ⟨f, rfl⟩ : ∃ g, f = g + 1 := ⟨f - 1, by omega⟩
  obtain ⟨f', h1, h2⟩ := hV f (41 :: rest) (by omega) (.inr (.inr rfl))
  refine ⟨t, rest, ?_, rfl⟩
  have e : (40 :: (prT t ++ [41])) ++ rest = 40 :: (prT t ++ 41 :: rest) := by simp
  rw [e, atomR, h2]
  obtain ⟨f', rfl⟩ : ∃ g, f' = g + 1 := ⟨f' - 1, by omega⟩
  rw [waysL, if_neg (by simp)]
  simp
theorem brk_no {ks : List Int} {t : Rx} {x : List Nat} (h : t.knd ∉ ks) : brk ks t x = x := if_neg h
theorem brk_yes {ks : List Int} {t : Rx} {x : List Nat} (h : t.knd ∈ ks) : brk ks t x = 40 :: (x ++ [41]) := if_pos h
theorem read_all : ∀ t : Rx, SOk t → PA t ∧ PW t ∧ PV t
  | .nil, _ => by
    have hA : PA .nil := fun f rest hf => by
      have e : tx43 .nil = [40, 41] := rfl
      rw [e] at hf ⊢
      simp only [List.length_cons, List.length_nil] at hf
      obtain ⟨f, rfl⟩ : ∃ g, f = g + 4 := ⟨f - 4, by omega⟩
      refine ⟨.nil, rest, ?_, rfl⟩
      show atomR (f + 4) (40 :: 41 :: rest) = _
      rw [atomR, waysR, wayL, if_pos (by simp)]
      simp only [Option.getD_none]
      rw [waysL, if_neg (by simp)]
      simp
    have hW := pw_of hA rfl
    exact ⟨hA, hW, pv_of hW rfl⟩
  | .set s, h => by
    have hA : PA (.set s) := fun f rest hf => by
      have e : tx43 (.set s) = setN s := rfl
      rw [e] at hf ⊢
      have := (gh_set s).pos
      exact ⟨.set s, rest, set_read h (by omega) rest, rfl⟩
    have hW := pw_of hA rfl
    exact ⟨hA, hW, pv_of hW rfl⟩
  | .seq a b, h => by
    obtain ⟨_, aW, _⟩ := read_all a h.1
    obtain ⟨bA, _, _⟩ := read_all b h.2
    have e4 : tx4 (.seq a b) = tx4 a ++ tx43 b := brk_no (by simp [Rx.knd])
    have hW : PW (.seq a b) := fun f R hf hR => by
      rw [e4] at hf ⊢
      rw [List.length_append] at hf
      obtain ⟨f', h1, h2⟩ := aW f (tx43 b ++ R) (by omega) ((gh43 b).app R).noPost
      have := (gh43 b).pos
      obtain ⟨g, rfl⟩ : ∃ g, f' = g + 1 := ⟨f' - 1, by omega⟩
      refine ⟨g, by rw [List.length_append]; omega, ?_⟩
      rw [List.append_assoc, h2, way_step bA hR (by omega)]
    have hV := pv_of hW (brk_no (by simp [Rx.knd]))
    exact ⟨pa_of hV (brk_yes (by simp [Rx.knd])), hW, hV⟩
  | .alt a b, h => by
    obtain ⟨_, _, aV⟩ := read_all a h.1
    obtain ⟨_, bW, _⟩ := read_all b h.2
    have ep : prT (.alt a b) = prT a ++ 124 :: tx4 b := rfl
    have hV : PV (.alt a b) := fun f R hf hR => by
      rw [ep] at hf ⊢
      simp only [List.length_append, List.length_cons] at hf
      obtain ⟨f', h1, h2⟩ := aV f (124 :: (tx4 b ++ R)) (by omega) (.inr (.inl rfl))
      obtain ⟨g, rfl⟩ : ∃ g, f' = g + 1 := ⟨f' - 1, by omega⟩
      obtain ⟨g', h3, h4⟩ := bW g R (by omega) (stop_noPost hR)
      refine ⟨g, by simp only [List.length_append, List.length_cons]; omega, ?_⟩
      have e : prT a ++ 124 :: tx4 b ++ R = prT a ++ 124 :: (tx4 b ++ R) := by simp
      rw [e, h2, waysL, if_pos (show (124 :: (tx4 b ++ R)).head? = some 124 from rfl), List.tail_cons, h4, way_end hR (by omega)]
    have hA := pa_of hV (brk_yes (by simp [Rx.knd]))
    have e4 : tx4 (.alt a b) = tx43 (.alt a b) := (brk_yes (by simp [Rx.knd])).trans (brk_yes (by simp [Rx.knd])).symm
    exact ⟨hA, pw_of hA e4, hV⟩
  | .star a, h => by
    obtain ⟨aA, _, _⟩ := read_all a h
    have hA : PA (.star a) := fun f rest hf => by
      have e : tx43 (.star a) = tx43 a ++ [42] := brk_no (by simp [Rx.knd])
      rw [e] at hf ⊢
      rw [List.length_append] at hf
      obtain ⟨t0, r0, h1, h2⟩ := aA f (42 :: rest) (by omega)
      refine ⟨t0, r0, by rw [List.append_assoc]; exact h1, ?_⟩
      rw [h2, postR, if_neg (by decide), if_neg (by decide), if_pos rfl]
    have hW := pw_of hA ((brk_no (by simp [Rx.knd])).trans (brk_no (by simp [Rx.knd])).symm)
    exact ⟨hA, hW, pv_of hW (brk_no (by simp [Rx.knd]))⟩
  | .plus a, h => by
    obtain ⟨aA, _, _⟩ := read_all a h
    have hA : PA (.plus a) := fun f rest hf => by
      have e : tx43 (.plus a) = tx43 a ++ [43] := brk_no (by simp [Rx.knd])
      rw [e] at hf ⊢
      rw [List.length_append] at hf
      obtain ⟨t0, r0, h1, h2⟩ := aA f (43 :: rest) (by omega)
      refine ⟨t0, r0, by rw [List.append_assoc]; exact h1, ?_⟩
      rw [h2, postR, if_neg (by decide), if_pos rfl]
    have hW := pw_of hA ((brk_no (by simp [Rx.knd])).trans (brk_no (by simp [Rx.knd])).symm)
    exact ⟨hA, hW, pv_of hW (brk_no (by simp [Rx.knd]))⟩
theorem print_parse {t : Rx} (h : SOk t) (hs : t.size ≤ 256) (hl : (prT t).length ≤ 1024) : parseR (prT t) = .ok t := by
  obtain ⟨f', h1, h2⟩ := (read_all t h).2.2 (4 * (prT t).length + 8) [] (by omega) (.inl rfl)
  rw [List.append_nil] at h2
  obtain ⟨g, rfl⟩ : ∃ g, f' = g + 1 := ⟨f' - 1, by omega⟩
  unfold parseR
  rw [if_neg (by omega), h2, waysL, if_neg (by simp)]
  simp only
  rw [if_neg (by simp), if_neg (by omega)]
end Go.Eng

/- What is read has sets of bytes. -/
set_option linter.unusedVariables false
set_option linter.unusedSimpArgs false
namespace Go.Eng

def Bts (l : List Nat) : Prop := ∀ c ∈ l, c < 256
theorem Bts.tail {l : List Nat} (h : Bts l) : Bts l.tail := fun c hc => h c (List.mem_of_mem_tail hc)
theorem dgt_lt16 (c : Nat) (h : dgt c < 16) : dgt c < 16 := h
theorem hex1_by {l r : List Nat} {c : Nat} (h : Bts l) (he : hex1 l = .ok (c, r)) : c < 16 ∧ Bts r := by
  cases l with
  | nil => cases he
  | cons d l =>
    rw [hex1] at he
    split at he
    · rename_i hd
      injection he with he
      injection he with h1 h2
      subst h1; subst h2
      exact ⟨hd, fun c hc => h c (by simp [hc])⟩
    · cases he
theorem hex2_by {l r : List Nat} {c : Nat} (h : Bts l) (he : hex2 l = .ok (c, r)) : c < 256 ∧ Bts r := by
  unfold hex2 at he
  cases h1 : hex1 l with
  | error e => rw [h1] at he; cases he
  | ok p =>
    obtain ⟨x, r1⟩ := p
    rw [h1] at he
    simp only at he
    obtain ⟨a1, a2⟩ := hex1_by h h1
    cases h2 : hex1 r1 with
    | error e => rw [h2] at he; cases he
    | ok p =>
      obtain ⟨y, r2⟩ := p
      rw [h2] at he
      simp only at he
      obtain ⟨b1, b2⟩ := hex1_by a2 h2
      injection he with he
      injection he with h3 h4
      subst h3; subst h4
      exact ⟨by omega, b2⟩
theorem escR_by {l r : List Nat} {c : Nat} (h : Bts l) (he : escR l = .ok (c, r)) : c < 256 ∧ Bts r := by
  cases l with
  | nil => cases he
  | cons d l =>
    have hl : Bts l := fun c hc => h c (by simp [hc])
    have hd := h d (by simp)
    rw [escR] at he
    repeat' split at he
    all_goals first
      | exact hex2_by hl he
      | (injection he with he; injection he with h1 h2; subst h1; subst h2; exact ⟨by omega, hl⟩)
      | cases he
theorem letR_by {no l r : List Nat} {c : Nat} (h : Bts l) (he : letR no l = .ok (c, r)) : c < 256 ∧ Bts r := by
  cases l with
  | nil => cases he
  | cons d l =>
    have hl : Bts l := fun c hc => h c (by simp [hc])
    rw [letR] at he
    split at he
    · exact escR_by hl he
    · split at he
      · cases he
      · injection he with he; injection he with h1 h2; subst h1; subst h2
        exact ⟨h _ (by simp), hl⟩
theorem clsL_by : ∀ (f : Nat) (first : Bool) (s : Nat) (l r : List Nat) (t : Nat), Bts l → s < 2 ^ 256 → clsL f first s l = .ok (t, r) → t < 2 ^ 256 ∧ Bts r
  | 0, first, s, l, r, t, h, hs, he => by cases he
  | f + 1, first, s, l, r, t, h, hs, he => by
    rw [clsL] at he
    split at he
    · injection he with he; injection he with h1 h2; subst h1; subst h2
      exact ⟨hs, h.tail⟩
    · cases h1 : letR classL l with
      | error e => rw [h1] at he; cases he
      | ok p =>
        obtain ⟨a, r1⟩ := p
        rw [h1] at he
        simp only at he
        obtain ⟨a1, a2⟩ := letR_by h h1
        split at he
        · cases h2 : letR classL r1.tail with
          | error e => rw [h2] at he; cases he
          | ok p =>
            obtain ⟨b, r2⟩ := p
            rw [h2] at he
            simp only at he
            obtain ⟨b1, b2⟩ := letR_by a2.tail h2
            split at he
            · cases he
            · exact clsL_by f _ _ _ _ _ b2 (or_lt hs (spanS_lt b1)) he
        · exact clsL_by f _ _ _ _ _ a2 (or_lt hs (spanS_lt a1)) he
theorem clsR_by {l r : List Nat} {t : Nat} (h : Bts l) (he : clsR l = .ok (t, r)) : t < 2 ^ 256 ∧ Bts r := by
  unfold clsR at he
  split at he
  · cases h1 : clsL (l.length + 1) true 0 l.tail with
    | error e => rw [h1] at he; cases he
    | ok p =>
      obtain ⟨s, r1⟩ := p
      rw [h1] at he
      simp only at he
      obtain ⟨a1, a2⟩ := clsL_by _ _ _ _ _ _ h.tail (by decide) h1
      injection he with he; injection he with h1 h2; subst h1; subst h2
      exact ⟨notS_lt a1, a2⟩
  · exact clsL_by _ _ _ _ _ _ h (by decide) he
theorem postR_by : ∀ (l : List Nat) (t : Rx), Bts l → SOk t → SOk (postR t l).1 ∧ Bts (postR t l).2
  | [], t, h, ht => ⟨by rw [postR]; exact ht, by rw [postR]; exact h⟩
  | c :: l, t, h, ht => by
    have hl : Bts l := fun c hc => h c (by simp [hc])
    rw [postR]
    split
    · exact postR_by l _ hl ⟨ht, trivial⟩
    · split
      · exact postR_by l _ hl ht
      · split
        · exact postR_by l _ hl ht
        · exact ⟨ht, h⟩
theorem read_by : ∀ f : Nat, (∀ l t r, Bts l → atomR f l = .ok (t, r) → SOk t ∧ Bts r) ∧ (∀ x l t r, Bts l → (∀ y, x = some y → SOk y) → wayL f x l = .ok (t, r) → SOk t ∧ Bts r) ∧
    (∀ x l t r, Bts l → SOk x → waysL f x l = .ok (t, r) → SOk t ∧ Bts r) ∧ (∀ l t r, Bts l → waysR f l = .ok (t, r) → SOk t ∧ Bts r)
  | 0 => by
    refine ⟨fun l t r _ he => ?_, fun x l t r _ _ he => ?_, fun x l t r _ _ he => ?_, fun l t r _ he => ?_⟩
    · cases he
    · cases he
    · cases he
    · cases he
  | f + 1 => by
    obtain ⟨iA, iW, iS, iV⟩ := read_by f
    refine ⟨fun l t r h he => ?_, fun x l t r h hx he => ?_, fun x l t r h hx he => ?_, fun l t r h he => ?_⟩
    · rw [atomR.eq_def] at he
      simp only at he
      split at he
      · rename_i r1
        have h1 : Bts r1 := fun c hc => h c (by simp [hc])
        cases hw : waysR f r1 with
        | error e => rw [hw] at he; cases he
        | ok p =>
          obtain ⟨x, r2⟩ := p
          rw [hw] at he
          simp only at he
          obtain ⟨a1, a2⟩ := iV _ _ _ h1 hw
          split at he
          · injection he with he; injection he with e1 e2; subst e1; subst e2
            exact ⟨a1, a2.tail⟩
          · cases he
      · rename_i r1
        injection he with he; injection he with e1 e2; subst e1; subst e2
        exact ⟨notS_lt (ofS_lt (by simp)), fun c hc => h c (by simp [hc])⟩
      · rename_i r1
        have h1 : Bts r1 := fun c hc => h c (by simp [hc])
        cases hw : clsR r1 with
        | error e => rw [hw] at he; cases he
        | ok p =>
          obtain ⟨s, r2⟩ := p
          rw [hw] at he
          simp only at he
          obtain ⟨a1, a2⟩ := clsR_by h1 hw
          injection he with he; injection he with e1 e2; subst e1; subst e2
          exact ⟨a1, a2⟩
      · cases hw : letR signsL l with
        | error e => rw [hw] at he; cases he
        | ok p =>
          obtain ⟨c, r2⟩ := p
          rw [hw] at he
          simp only at he
          obtain ⟨a1, a2⟩ := letR_by h hw
          injection he with he; injection he with e1 e2; subst e1; subst e2
          exact ⟨ofS_lt (by simpa using a1), a2⟩
    · rw [wayL] at he
      split at he
      · injection he with he; injection he with e1 e2; subst e1; subst e2
        refine ⟨?_, h⟩
        cases x with
        | none => trivial
        | some x => exact hx x rfl
      · cases ha : atomR f l with
        | error e => rw [ha] at he; cases he
        | ok p =>
          obtain ⟨t1, r1⟩ := p
          rw [ha] at he
          simp only at he
          obtain ⟨a1, a2⟩ := iA _ _ _ h ha
          obtain ⟨b1, b2⟩ := postR_by r1 t1 a2 a1
          refine iW _ _ _ _ b2 (fun y hy => ?_) he
          cases x with
          | none => injection hy with hy; subst hy; exact b1
          | some x => injection hy with hy; subst hy; exact ⟨hx x rfl, b1⟩
    · rw [waysL] at he
      split at he
      · cases hw : wayL f none l.tail with
        | error e => rw [hw] at he; cases he
        | ok p =>
          obtain ⟨y, r1⟩ := p
          rw [hw] at he
          simp only at he
          obtain ⟨a1, a2⟩ := iW _ _ _ _ h.tail (fun y hy => by cases hy) hw
          exact iS _ _ _ _ a2 (show SOk (.alt x y) from ⟨hx, a1⟩) he
      · injection he with he; injection he with e1 e2; subst e1; subst e2
        exact ⟨hx, h⟩
    · rw [waysR] at he
      cases hw : wayL f none l with
      | error e => rw [hw] at he; cases he
      | ok p =>
        obtain ⟨y, r1⟩ := p
        rw [hw] at he
        simp only at he
        obtain ⟨a1, a2⟩ := iW _ _ _ _ h (fun y hy => by cases hy) hw
        exact iS _ _ _ _ a2 a1 he
theorem parse_SOk {l : List Nat} {t : Rx} (h : Bts l) (he : parseR l = .ok t) : SOk t ∧ t.size ≤ 256 := by
  unfold parseR at he
  split at he
  · cases he
  · cases hw : waysR (4 * l.length + 8) l with
    | error e => rw [hw] at he; cases he
    | ok p =>
      obtain ⟨x, r⟩ := p
      rw [hw] at he
      simp only at he
      split at he
      · cases he
      · split at he
        · cases he
        · injection he with he
          subst he
          exact ⟨((read_by _).2.2.2 _ _ _ h hw).1, by omega⟩
theorem parse_bad {l : List Nat} {k : Nat} (he : parseR l = .bad k) : k ≤ l.length := by
  unfold parseR at he
  split at he
  · cases he
  · split at he
    · injection he with he; omega
    · split at he
      · injection he with he; omega
      · split at he
        · cases he
        · cases he
end Go.Eng
