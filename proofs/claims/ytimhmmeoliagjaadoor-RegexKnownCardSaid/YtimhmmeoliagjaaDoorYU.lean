import Derived.Test.YtimhmmeoliagjaaDoorYR
set_option linter.unusedVariables false
set_option linter.unusedSimpArgs false
namespace Go.Eng

section
variable {l : List Nat} (hs : l.Pairwise (· < ·)) (hb : ∀ c ∈ l, c < 256)
include hs hb
end
end Go.Eng

set_option linter.unusedVariables false
set_option linter.unusedSimpArgs false
namespace Go.Eng

def GH (l : List Nat) : Prop := ∃ c r, l = c :: r ∧ c ≠ 63 ∧ c ≠ 43 ∧ c ≠ 42 ∧ c ≠ 124 ∧ c ≠ 41
theorem GH.app {l : List Nat} (h : GH l) (r : List Nat) : GH (l ++ r) := by
  obtain ⟨c, r', rfl, h⟩ := h
  exact ⟨c, r' ++ r, rfl, h⟩
theorem GH.pos {l : List Nat} (h : GH l) : 0 < l.length := by
  obtain ⟨c, r', rfl, _⟩ := h
  simp
end Go.Eng

set_option linter.unusedVariables false
set_option linter.unusedSimpArgs false
namespace Go.Eng

def Bts (l : List Nat) : Prop := ∀ c ∈ l, c < 256
theorem Bts.tail {l : List Nat} (h : Bts l) : Bts l.tail := fun c hc => h c (List.mem_of_mem_tail hc)
end Go.Eng
