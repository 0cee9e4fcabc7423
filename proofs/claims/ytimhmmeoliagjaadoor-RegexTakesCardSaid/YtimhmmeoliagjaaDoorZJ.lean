import Derived.Test.YtimhmmeoliagjaaDoorZI
import Derived.Test.YtimhmmeoliagjaaDoorZC
set_option linter.unusedVariables false
set_option linter.unusedSimpArgs false
namespace Go.Eng

theorem behK_iff {fa fb : MF} {i j : Nat} : ∀ (d k : Nat), behK fa fb d k i j = true ↔ ∃ m, k ≤ m ∧ m < k + d ∧ m ≤ j ∧ fa i m = true ∧ fb m j = true
  | 0, k => by simp [behK]; omega
  | d + 1, k => by
    rw [behK, Bool.or_eq_true, behK_iff d (k + 1), Bool.and_eq_true, Bool.and_eq_true, decide_eq_true_eq]
    constructor
    · rintro (⟨h1, h2, h3⟩ | ⟨m, h1, h2, h3⟩)
      · exact ⟨k, Nat.le_refl _, by omega, h2, h1, h3⟩
      · exact ⟨m, by omega, by omega, h3⟩
    · rintro ⟨m, h1, h2, h3, h4, h5⟩
      by_cases he : m = k
      · subst he; exact .inl ⟨h4, h3, h5⟩
      · exact .inr ⟨m, by omega, by omega, h3, h4, h5⟩
theorem behF_iff {n : Nat} {fa fb : MF} {i j : Nat} (hi : i < n) (hj : j < n) : behF n fa fb i j = true ↔ ∃ m, i ≤ m ∧ m ≤ j ∧ fa i m = true ∧ fb m j = true := by
  unfold behF
  rw [behK_iff]
  constructor
  · rintro ⟨m, h1, _, h2⟩; exact ⟨m, h1, h2⟩
  · rintro ⟨m, h1, h2, h3⟩; exact ⟨m, h1, by omega, h2, h3⟩
def matT (T : List Nat) : Rx → MF
  | .nil => fun i j => decide (i = j)
  | .set s => fun i j => decide (j = i + 1) && (match T[i]? with | some c => s.testBit c | none => false)
  | .seq x y => behF (T.length + 1) (matT T x) (matT T y)
  | .alt x y => fun i j => matT T x i j || matT T y i j
  | .star x => oftF (T.length + 1) (matT T x)
  | .plus x => behF (T.length + 1) (matT T x) (oftF (T.length + 1) (matT T x))
inductive Stp (f : MF) : Nat → Nat → Nat → Prop where
  | one {i j : Nat} : i ≤ j → f i j = true → Stp f 1 i j
  | more {k i m j : Nat} : i ≤ m → f i m = true → Stp f k m j → Stp f (k + 1) i j
theorem Stp.le {f : MF} {k i j : Nat} (h : Stp f k i j) : i ≤ j ∧ 1 ≤ k := by
  induction h with
  | one h _ => exact ⟨h, Nat.le_refl _⟩
  | more h _ _ ih => exact ⟨by omega, by omega⟩
theorem Stp.split {f : MF} : ∀ (a : Nat) {k i j : Nat}, Stp f k i j → 1 ≤ a → a < k → ∃ m, Stp f a i m ∧ Stp f (k - a) m j
  | 0, k, i, j, h, h1, _ => by omega
  | a + 1, k, i, j, h, h1, h2 => by
    cases h with
    | one _ _ => omega
    | @more k _ m _ q1 q2 q3 =>
      by_cases ha : a = 0
      · subst ha
        exact ⟨m, .one q1 q2, by simpa using q3⟩
      · obtain ⟨p, r1, r2⟩ := Stp.split a q3 (by omega) (by omega)
        exact ⟨p, .more q1 q2 r1, by rw [show k + 1 - (a + 1) = k - a by omega]; exact r2⟩
theorem Stp.join {f : MF} {a i m : Nat} (h : Stp f a i m) {b j : Nat} (h' : Stp f b m j) : Stp f (a + b) i j := by
  induction h with
  | one h1 h2 => rw [Nat.add_comm]; exact .more h1 h2 h'
  | more h1 h2 _ ih => rw [Nat.add_right_comm]; exact .more h1 h2 (ih h')
theorem it_of {n : Nat} : ∀ (k m : Nat) (f g : MF) (i j : Nat), i < n → j < n → (∀ i j, i < n → j < n → f i j = true → ∃ a, Stp g a i j) → itF n k m f i j = true → ∃ a, Stp g a i j
  | 0, m, f, g, i, j, hi, hj, hf, h => hf i j hi hj h
  | k + 1, m, f, g, i, j, hi, hj, hf, h => by
    rw [itF] at h
    split at h
    · refine it_of k (2 * m) (sqF n f) g i j hi hj (fun i j hi hj hs => ?_) h
      unfold sqF at hs
      rw [Bool.or_eq_true, behF_iff hi hj] at hs
      rcases hs with hs | ⟨p, h1, h2, h3, h4⟩
      · exact hf i j hi hj hs
      · obtain ⟨a, s1⟩ := hf i p hi (by omega) h3
        obtain ⟨b, s2⟩ := hf p j (by omega) hj h4
        exact ⟨a + b, s1.join s2⟩
    · exact hf i j hi hj h
theorem to_it {n : Nat} : ∀ (k m : Nat) (f g : MF) (i j : Nat), i < n → j < n → 2 * n ≤ m * 2 ^ k → (∀ a i j, i < n → j < n → 1 ≤ a → a ≤ m → Stp g a i j → f i j = true) → ∀ a, 1 ≤ a → a ≤ 2 * n → Stp g a i j → itF n k m f i j = true
  | 0, m, f, g, i, j, hi, hj, hm, hf, a, h1, h2, h => hf a i j hi hj h1 (by rw [Nat.pow_zero, Nat.mul_one] at hm; omega) h
  | k + 1, m, f, g, i, j, hi, hj, hm, hf, a, h1, h2, h => by
    rw [itF]
    split
    · refine to_it k (2 * m) (sqF n f) g i j hi hj (by rw [Nat.pow_succ] at hm; have : 2 * m * 2 ^ k = m * (2 ^ k * 2) := by rw [Nat.mul_comm 2 m, Nat.mul_assoc, Nat.mul_comm 2 (2 ^ k)]
                                                       omega) (fun a i j hi hj h1 h2 h => ?_) a h1 h2 h
      unfold sqF
      rw [Bool.or_eq_true, behF_iff hi hj]
      by_cases ha : a ≤ m
      · exact .inl (hf a i j hi hj h1 ha h)
      · by_cases hm0 : m = 0
        · subst hm0; omega
        obtain ⟨p, s1, s2⟩ := Stp.split m h (by omega) (by omega)
        have l1 := s1.le
        have l2 := s2.le
        exact .inr ⟨p, l1.1, l2.1, hf m i p hi (by omega) (by omega) (Nat.le_refl _) s1, hf (a - m) p j (by omega) hj (by omega) (by omega) s2⟩
    · exact hf a i j hi hj h1 (by omega) h
theorem star_stp {T : List Nat} {x : Rx} (hx : ∀ i j, i ≤ T.length → j ≤ T.length → (matT T x i j = true ↔ Mt T x i j)) {k i j : Nat} (h : Stp (matT T x) k i j) : j ≤ T.length → Mt T (.star x) i j := by
  induction h with
  | one h1 h2 => intro hj; exact .starS ((hx _ _ (by omega) hj).1 h2) (.star0 hj)
  | more h1 h2 h3 ih => intro hj; have := h3.le; exact .starS ((hx _ _ (by omega) (by omega)).1 h2) (ih hj)
theorem stp_star {T : List Nat} {x : Rx} (hx : ∀ i j, i ≤ T.length → j ≤ T.length → (matT T x i j = true ↔ Mt T x i j)) : ∀ (d i j : Nat), j - i ≤ d → Mt T (.star x) i j → i = j ∨ ∃ k, k ≤ j - i ∧ Stp (matT T x) k i j
  | 0, i, j, hd, h => .inl (by have := h.le; omega)
  | d + 1, i, j, hd, h => by
    have hle := h.le
    rcases star_first h rfl with h0 | ⟨k, hk, h1, h2⟩
    · exact .inl h0
    · have l1 := h1.le
      have l2 := h2.le
      have hm := (hx i k (by omega) (by omega)).2 h1
      rcases stp_star hx d k j (by omega) h2 with rfl | ⟨a, ha, s⟩
      · exact .inr ⟨1, by omega, .one (by omega) hm⟩
      · exact .inr ⟨a + 1, by omega, .more (by omega) hm s⟩
theorem oft_iff {T : List Nat} {x : Rx} (hx : ∀ i j, i ≤ T.length → j ≤ T.length → (matT T x i j = true ↔ Mt T x i j)) {i j : Nat} (hi : i ≤ T.length) (hj : j ≤ T.length) : oftF (T.length + 1) (matT T x) i j = true ↔ Mt T (.star x) i j := by
  unfold oftF
  rw [Bool.or_eq_true, decide_eq_true_eq]
  constructor
  · rintro (rfl | h)
    · exact .star0 hi
    · obtain ⟨a, s⟩ := it_of (T.length + 1) 1 (matT T x) (matT T x) i j (by omega) (by omega) (fun i j h1 h2 h => ⟨1, .one (((hx i j (by omega) (by omega)).1 h).le).1 h⟩) h
      exact star_stp hx s hj
  · intro h
    rcases stp_star hx (j - i) i j (Nat.le_refl _) h with h0 | ⟨a, ha, s⟩
    · exact .inl h0
    · refine .inr (to_it (T.length + 1) 1 (matT T x) (matT T x) i j (by omega) (by omega) (two_pow_ge _ (by omega)) (fun a i j h1 h2 h3 h4 h => ?_) a s.le.2 (by omega) s)
      obtain rfl : a = 1 := by omega
      cases h with
      | one _ h => exact h
      | more _ _ h => have := h.le; omega
theorem matT_iff (T : List Nat) : ∀ (t : Rx) (i j : Nat), i ≤ T.length → j ≤ T.length → (matT T t i j = true ↔ Mt T t i j)
  | .nil, i, j, hi, hj => by
    rw [matT, decide_eq_true_eq]
    exact ⟨fun h => by subst h; exact .nil hi, fun h => by cases h; rfl⟩
  | .set s, i, j, hi, hj => by
    rw [matT, Bool.and_eq_true, decide_eq_true_eq]
    constructor
    · rintro ⟨rfl, h⟩
      cases hc : T[i]? with
      | none => rw [hc] at h; cases h
      | some c => rw [hc] at h; exact .set hc h
    · intro h
      cases h with
      | set h1 h2 => rw [h1]; exact ⟨rfl, h2⟩
  | .seq x y, i, j, hi, hj => by
    rw [matT, behF_iff (by omega) (by omega), seq_iff]
    constructor
    · rintro ⟨m, h1, h2, h3, h4⟩
      exact ⟨m, (matT_iff T x i m hi (by omega)).1 h3, (matT_iff T y m j (by omega) hj).1 h4⟩
    · rintro ⟨m, h1, h2⟩
      have l1 := h1.le
      have l2 := h2.le
      exact ⟨m, l1.1, l2.1, (matT_iff T x i m hi (by omega)).2 h1, (matT_iff T y m j (by omega) hj).2 h2⟩
  | .alt x y, i, j, hi, hj => by
    rw [matT, Bool.or_eq_true, alt_iff, matT_iff T x i j hi hj, matT_iff T y i j hi hj]
  | .star x, i, j, hi, hj => by
    rw [matT]
    exact oft_iff (fun i j hi hj => matT_iff T x i j hi hj) hi hj
  | .plus x, i, j, hi, hj => by
    rw [matT, behF_iff (by omega) (by omega)]
    have hx := fun i j hi hj => matT_iff T x i j hi hj
    constructor
    · rintro ⟨m, h1, h2, h3, h4⟩
      exact .plus ((hx i m hi (by omega)).1 h3) ((oft_iff hx (by omega) hj).1 h4)
    · intro h
      cases h with
      | plus h1 h2 =>
        have l1 := h1.le
        have l2 := h2.le
        exact ⟨_, l1.1, l2.1, (hx _ _ hi (by omega)).2 h1, (oft_iff hx (by omega) hj).2 h2⟩
theorem mat_takes {T : List Nat} {t : Rx} (ht : t.size ≤ 1000000) : matT T t 0 T.length = takesN (t.flat 0) T := by
  rw [Bool.eq_iff_iff, matT_iff T t 0 T.length (by omega) (by omega), tk_iff ht]
end Go.Eng
