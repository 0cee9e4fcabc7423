/- RegexParts. -/
import Derived.Test.YtimhmmeoliagjaaDoorZB
set_option linter.unusedVariables false
set_option linter.unusedSimpArgs false
set_option linter.unusedSectionVars false
set_option maxRecDepth 100000
namespace Go.Eng
open Go Go.Proofs

theorem Mt.of_take {T : List Nat} {k : Nat} {t : Rx} {i j : Nat} (h : Mt (T.take k) t i j) : Mt T t i j := by
  have hle : ∀ {i : Nat}, i ≤ (T.take k).length → i ≤ T.length := fun h => by rw [List.length_take] at h; omega
  induction h with
  | nil h => exact .nil (hle h)
  | set h1 h2 =>
    rw [List.getElem?_take] at h1
    split at h1
    · exact .set h1 h2
    · cases h1
  | seq _ _ h1 h2 => exact .seq h1 h2
  | altL _ h => exact .altL h
  | altR _ h => exact .altR h
  | star0 h => exact .star0 (hle h)
  | starS _ _ h1 h2 => exact .starS h1 h2
  | plus _ _ h1 h2 => exact .plus h1 h2
theorem Mt.to_take {T : List Nat} {k : Nat} {t : Rx} {i j : Nat} (h : Mt T t i j) (hk : k ≤ T.length) : j ≤ k → Mt (T.take k) t i j := by
  have hl : (T.take k).length = k := by rw [List.length_take]; omega
  induction h with
  | nil h => intro hj; exact .nil (by omega)
  | set h1 h2 => intro hj; exact .set (by rw [List.getElem?_take, if_pos (by omega)]; exact h1) h2
  | seq a b h1 h2 => intro hj; have := b.le; exact .seq (h1 (by omega)) (h2 hj)
  | altL _ h => intro hj; exact .altL (h hj)
  | altR _ h => intro hj; exact .altR (h hj)
  | star0 h => intro hj; exact .star0 (by omega)
  | starS a b h1 h2 => intro hj; have := b.le; exact .starS (h1 (by omega)) (h2 hj)
  | plus a b h1 h2 => intro hj; have := b.le; exact .plus (h1 (by omega)) (h2 hj)
theorem Mt.of_drop {T : List Nat} {k : Nat} (hk : k ≤ T.length) {t : Rx} {i j : Nat} (h : Mt (T.drop k) t i j) : Mt T t (k + i) (k + j) := by
  have hl : (T.drop k).length = T.length - k := List.length_drop
  induction h with
  | nil h => exact .nil (by omega)
  | set h1 h2 => exact .set (by rw [List.getElem?_drop] at h1; exact h1) h2
  | seq _ _ h1 h2 => exact .seq h1 h2
  | altL _ h => exact .altL h
  | altR _ h => exact .altR h
  | star0 h => exact .star0 (by omega)
  | starS _ _ h1 h2 => exact .starS h1 h2
  | plus _ _ h1 h2 => exact .plus h1 h2
theorem Mt.to_drop {T : List Nat} {k : Nat} {t : Rx} {i j : Nat} (h : Mt T t i j) : k ≤ i → Mt (T.drop k) t (i - k) (j - k) := by
  have hl : (T.drop k).length = T.length - k := List.length_drop
  induction h with
  | nil h => intro hi; exact .nil (by omega)
  | @set s i c h1 h2 =>
    intro hi
    rw [show i + 1 - k = i - k + 1 by omega]
    exact .set (by rw [List.getElem?_drop, show k + (i - k) = i by omega]; exact h1) h2
  | seq a b h1 h2 => intro hi; have := a.le; exact .seq (h1 hi) (h2 (by omega))
  | altL _ h => intro hi; exact .altL (h hi)
  | altR _ h => intro hi; exact .altR (h hi)
  | star0 h => intro hi; exact .star0 (by omega)
  | starS a b h1 h2 => intro hi; have := a.le; exact .starS (h1 hi) (h2 (by omega))
  | plus a b h1 h2 => intro hi; have := a.le; exact .plus (h1 hi) (h2 (by omega))
theorem take_iff {T : List Nat} {t : Rx} {k : Nat} (hk : k ≤ T.length) : Mt (T.take k) t 0 (T.take k).length ↔ Mt T t 0 k := by
  have hl : (T.take k).length = k := by rw [List.length_take]; omega
  rw [hl]
  exact ⟨fun h => h.of_take, fun h => h.to_take hk (Nat.le_refl _)⟩
theorem drop_iff {T : List Nat} {t : Rx} {k : Nat} (hk : k ≤ T.length) : Mt (T.drop k) t 0 (T.drop k).length ↔ Mt T t k T.length := by
  have hl : (T.drop k).length = T.length - k := List.length_drop
  rw [hl]
  constructor
  · intro h
    have := h.of_drop hk
    rwa [Nat.add_zero, show k + (T.length - k) = T.length by omega] at this
  · intro h
    have := h.to_drop (k := k) (Nat.le_refl _)
    rwa [Nat.sub_self] at this
theorem star_first {T : List Nat} {x t : Rx} {i j : Nat} (h : Mt T t i j) : t = .star x → i = j ∨ ∃ k, i < k ∧ Mt T x i k ∧ Mt T (.star x) k j := by
  induction h with
  | star0 h => intro _; exact .inl rfl
  | @starS y i k j h1 h2 ih1 ih2 =>
    intro he
    injection he with he
    subst he
    have := h1.le
    by_cases hk : i < k
    · exact .inr ⟨k, hk, h1, h2⟩
    · obtain rfl : i = k := by omega
      exact ih2 rfl
  | _ => intro he; cases he
def anyK (p : Nat → Bool) : Nat → Bool
  | 0 => p 0
  | n + 1 => anyK p n || p (n + 1)
theorem anyK_iff (p : Nat → Bool) : ∀ n, anyK p n = true ↔ ∃ k, k ≤ n ∧ p k = true
  | 0 => ⟨fun h => ⟨0, Nat.le_refl _, h⟩, fun ⟨k, hk, h⟩ => by obtain rfl : k = 0 := by omega
                                                               exact h⟩
  | n + 1 => by
    rw [anyK, Bool.or_eq_true, anyK_iff p n]
    constructor
    · rintro (⟨k, hk, h⟩ | h)
      · exact ⟨k, by omega, h⟩
      · exact ⟨n + 1, Nat.le_refl _, h⟩
    · rintro ⟨k, hk, h⟩
      by_cases hn : k = n + 1
      · subst hn; exact .inr h
      · exact .inl ⟨k, by omega, h⟩
section
variable {a b : Rx} {T : List Nat} (ha : a.size ≤ 1000) (hb : b.size ≤ 1000)
include ha
theorem part_alt (hb : b.size ≤ 1000) : takesN ((Rx.alt a b).flat 0) T = (takesN (a.flat 0) T || takesN (b.flat 0) T) := by
  rw [Bool.eq_iff_iff, Bool.or_eq_true, tk_iff (by simp only [Rx.size]; omega), tk_iff (by omega), tk_iff (by omega)]
  exact alt_iff
theorem part_seq (hb : b.size ≤ 1000) : takesN ((Rx.seq a b).flat 0) T = anyK (fun k => takesN (a.flat 0) (T.take k) && takesN (b.flat 0) (T.drop k)) T.length := by
  rw [Bool.eq_iff_iff, anyK_iff, tk_iff (by simp only [Rx.size]; omega), seq_iff]
  constructor
  · rintro ⟨k, h1, h2⟩
    have hk : k ≤ T.length := h1.le.2
    refine ⟨k, hk, ?_⟩
    rw [Bool.and_eq_true, tk_iff (by omega), tk_iff (by omega), take_iff hk, drop_iff hk]
    exact ⟨h1, h2⟩
  · rintro ⟨k, hk, h⟩
    rw [Bool.and_eq_true, tk_iff (by omega), tk_iff (by omega), take_iff hk, drop_iff hk] at h
    exact ⟨k, h⟩
def manyB (a : Rx) (T : List Nat) : Bool := decide (T.length = 0) || anyK (fun k => decide (0 < k) && (takesN (a.flat 0) (T.take k) && takesN ((Rx.star a).flat 0) (T.drop k))) T.length
theorem part_star : takesN ((Rx.star a).flat 0) T = manyB a T := by
  unfold manyB
  rw [Bool.eq_iff_iff, Bool.or_eq_true, anyK_iff, tk_iff (by simp only [Rx.size]; omega), decide_eq_true_eq]
  constructor
  · intro h
    rcases star_first h rfl with h0 | ⟨k, hk, h1, h2⟩
    · exact .inl h0.symm
    · have hkl : k ≤ T.length := h1.le.2
      refine .inr ⟨k, hkl, ?_⟩
      rw [Bool.and_eq_true, Bool.and_eq_true, decide_eq_true_eq, tk_iff (by omega), tk_iff (by simp only [Rx.size]; omega), take_iff hkl, drop_iff hkl]
      exact ⟨hk, h1, h2⟩
  · rintro (h0 | ⟨k, hkl, h⟩)
    · rw [h0]; exact .star0 (Nat.zero_le _)
    · rw [Bool.and_eq_true, Bool.and_eq_true, decide_eq_true_eq, tk_iff (by omega), tk_iff (by simp only [Rx.size]; omega), take_iff hkl, drop_iff hkl] at h
      exact .starS h.2.1 h.2.2
theorem part_plus : takesN ((Rx.plus a).flat 0) T = (manyB a T && (decide (0 < T.length) || takesN (a.flat 0) [])) := by
  rw [← part_star ha, Bool.eq_iff_iff, Bool.and_eq_true, Bool.or_eq_true, decide_eq_true_eq, tk_iff (by simp only [Rx.size]; omega), tk_iff (by simp only [Rx.size]; omega), tk_iff (by omega)]
  constructor
  · intro h
    cases h with
    | @plus _ _ k _ h1 h2 =>
      refine ⟨.starS h1 h2, ?_⟩
      cases T with
      | nil =>
        right
        have := h2.le
        obtain rfl : k = 0 := by simp at this; omega
        exact h1
      | cons c T => left; simp
  · rintro ⟨h, h2⟩
    rcases star_first h rfl with h0 | ⟨k, hk, h1, h3⟩
    · rcases h2 with h2 | h2
      · omega
      · have : T = [] := List.length_eq_zero_iff.1 h0.symm
        subst this
        exact .plus h2 (.star0 (Nat.le_refl _))
    · exact .plus h1 h3
end
end Go.Eng
