import Derived.Test.YtimhmmeoliagjaaDoorZB
set_option linter.unusedVariables false
set_option linter.unusedSimpArgs false
set_option linter.unusedSectionVars false
set_option maxRecDepth 100000
namespace Go.Eng
open Go Go.Proofs

theorem star_first {T : List Nat} {x t : Rx} {i j : Nat} (h : Mt T t i j) : t = .star x → i = j ∨ ∃ k, i < k ∧ Mt T x i k ∧ Mt T (.star x) k j := by
  induction h with
  | star0 h => intro _; exact .inl rfl
  | @starS y i k j h1 h2 ih1 ih2 =>
    intro he
    injection he with he
    subst he
    have := h1.le
    by_cases hk : i < k
    · exact .inr ⟨k, hk, h1, h2⟩
    · obtain rfl : i = k := by omega
      exact ih2 rfl
  | _ => intro he; cases he
section
variable {a b : Rx} {T : List Nat} (ha : a.size ≤ 1000) (hb : b.size ≤ 1000)
include ha
end
end Go.Eng
