import Derived.Test.YtimhmmeoliagjaaDoorZA
set_option linter.unusedVariables false
set_option linter.unusedSimpArgs false
set_option linter.unusedSectionVars false
set_option maxRecDepth 100000
namespace Go.Eng
open Go Go.Proofs
open Tryd (prog)

theorem b_boo {a b : Bool} : binB prog .eql 4 (.bool a) (.bool b) = some (.bool (a == b)) := by cases a <;> cases b <;> kernel_rfl
theorem tk_iff {t : Rx} {T : List Nat} (ht : t.size ≤ 1000000) : takesN (t.flat 0) T = true ↔ Mt T t 0 T.length := takesN_iff ht
theorem alt_iff {T : List Nat} {x y : Rx} {i j : Nat} : Mt T (.alt x y) i j ↔ Mt T x i j ∨ Mt T y i j :=
 ⟨fun h => by cases h with | altL h => exact .inl h | altR h => exact .inr h, fun h => h.elim .altL .altR⟩
theorem seq_iff {T : List Nat} {x y : Rx} {i j : Nat} : Mt T (.seq x y) i j ↔ ∃ k, Mt T x i k ∧ Mt T y k j :=
 ⟨fun h => by cases h with | seq h1 h2 => exact ⟨_, h1, h2⟩, fun ⟨_, h1, h2⟩ => .seq h1 h2⟩
section
variable {q : Nat} {cs : List Value}
end
end Go.Eng
