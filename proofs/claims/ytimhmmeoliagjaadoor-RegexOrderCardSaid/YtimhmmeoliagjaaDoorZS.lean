/- Three patterns as an array. -/
import Derived.Test.YtimhmmeoliagjaaDoorZR
set_option linter.unusedVariables false
set_option linter.unusedSimpArgs false
set_option maxRecDepth 100000
namespace Go.Proofs.YtimhmmeoliagjaaDoor
open Go Go.Eng Go.ChangeShapes Go.WideShapes Go.RowKit

theorem o_rex3 : Opens Tryd.prog 49 (Arr 3 (List NdR × Unit)) := opens_array Tryd.underlying49 (by kernel_rfl) o_rex
def okX (R : Nat → Prop) (H : Heap) (v : Value) (l : List Nd) : Prop := Sl R H 7 v l.length (NDS l) ∧ (∀ n ∈ l, okN n) ∧ ∀ n ∈ l, n.set < 2 ^ 256
theorem rep_rex3 {R : Nat → Prop} {H : Heap} {x : Arr 3 (List NdR × Unit)} {cs : List Value} (h : Rp.rep R H x cs) : ∃ v0 v1 v2 l0 l1 l2, cs = [v0, v1, v2] ∧ okX R H v0 l0 ∧ okX R H v1 l1 ∧ okX R H v2 l2 := by
  obtain ⟨xs, hxs⟩ := x
  have h' : RpL R H xs cs := h
  match xs, hxs with
  | [w0, w1, w2], _ =>
    cases h' with
    | cons q0 h' => cases h' with
      | cons q1 h' => cases h' with
        | cons q2 h' =>
          cases h'
          obtain ⟨v0, rfl, a0, b0, c0⟩ := rep_rex q0
          obtain ⟨v1, rfl, a1, b1, c1⟩ := rep_rex q1
          obtain ⟨v2, rfl, a2, b2, c2⟩ := rep_rex q2
          exact ⟨v0, v1, v2, _, _, _, rfl, ⟨a0, b0, c0⟩, ⟨a1, b1, c1⟩, ⟨a2, b2, c2⟩⟩
end Go.Proofs.YtimhmmeoliagjaaDoor
