/- ShaDigests returns true and leaves its arguments as they were, for all arguments (the first form of the statement); no condition. -/
import Derived.Test.YtmajmmknpajcgaaSW
import Derived.Test.YtmajmmknpajcgaaUD
import Derived.JoinedCond
import Derived.KernelRfl
set_option linter.unusedVariables false
set_option linter.unusedSimpArgs false
namespace Go.Proofs.Ytmajmmknpajcgaa
open Go Go.Eng Go.ChangeShapes Go.WideShapes Go.RowKit

namespace shaDigests
theorem contract (H : Type) (enc : TypeId × Value → H) (W : World) (base : Nat) (args : Array Value) (ds gs : List (DataW H)) (before : List MemPlace)
    (hval : ∀ (j : Nat) t v, Try.f5.params[j]? = some t → args[j]? = some v → Value.okWide Try.prog W .any base t v)
    (hW : DataW.Whole enc Try.prog Try.f5.params.toList Rows.shaDigestsSpec.vars false W args.toList ds gs before) :
    Calls Try.prog 5 args W fun e W' => ∃ v, e = .returned v ∧ Rows.shaDigestsSpec.post enc Try.prog Try.f5 false true false false W args v W' := by
  have hW' := hW
  obtain ⟨p, q, hA0, hV, rfl, hfz, hnd⟩ := hW
  have hA : DataW.TrodAll enc Try.prog W 0 (fun _ => true) true Try.f5.params.toList args.toList ds p := hA0
  rw [Try.params5] at hA hval
  obtain ⟨v0, vs0, d0, ds0, p0, q0, hargs0, rfl, rfl, t0, r0⟩ := trodAll_cons hA
  obtain ⟨hl, rfl, rfl⟩ := trodAll_nil r0
  obtain rfl : args = #[v0] := by cases args; simp_all
  obtain ⟨rfl, rfl⟩ := trodVars_none hV
  obtain ⟨V0, x0, a0, w0, s0, e0, b0⟩ := arg_slice Try.underlying29 o_bytes (hval 0 29 v0 rfl rfl) t0 [] (WinOk.nil W)
  have y0 := rep_bytes e0
  obtain ⟨H', ⟨N, hN⟩⟩ := digests_law y0 (U_byte x0)
  have hrun := hN N N (Nat.le_refl _) (Nat.le_refl _)
  refine (win_calls (args := [v0]) (by kernel_rfl) EE_sound EE_mono Try.func5 (by kernel_rfl) (by kernel_rfl) w0 (fun h => by cases h) hrun (LRel.cons s0 LRel.nil)).mono fun e W' ⟨he, hB⟩ => ?_
  subst he
  exact ⟨_, rfl, post_of_true laidOut (t := 4) (by kernel_rfl) Try.underlying4 rfl (by kernel_rfl) hW' rfl hB⟩

set_option maxRecDepth 100000 in
theorem lifted (os : Os) (started : os.Started) (H : Type) (enc : TypeId × Value → H) (F : Stop.Interp) :
    ReturnsInHanded {} Try.checked os 5 .any ((OpenSpec.ofChange Rows.shaDigestsSpec).pre6 enc Try.prog Try.f5 Rows.shaDigestsRow.domain false) (((OpenSpec.ofChange Rows.shaDigestsSpec).at F).post enc Try.prog Try.f5 false true false false) := by
  refine returnsInHanded_of_change (C := Try.checked) (s := Rows.shaDigestsSpec) own started (by kernel_rfl) Try.func5
    (ChangeSpec.witness6 (enc := enc) (C := Try.checked) (s := Rows.shaDigestsSpec) false ⟨#[], #[.slice none 0 0], []⟩ 8 (by kernel_rfl) (by kernel_rfl) (by kernel_rfl) (by kernel_rfl)) ?_
  intro W base args ds gs before hval hW _ _
  exact contract H enc W base args ds gs before hval hW
theorem proved : Rows.ShaDigestsSaid :=
  OpenClaim.holds_of_cond 5 Try.f5 rfl rfl rfl rfl rfl rfl rfl ⟨rfl, rfl, rfl, rfl, rfl⟩ rfl rfl rfl rfl rfl (by kernel_rfl) Try.func5 (by kernel_rfl)
    (of_decide_eq_true (by kernel_rfl)) (by unfold Func.isWrapper; first | (rw [if_pos (by decide +kernel)]; kernel_rfl) | (rw [if_neg (by decide +kernel)]; exact ⟨rfl, rfl⟩))
    (fun os started H enc _ F => lifted os started H enc F)
end shaDigests
#print axioms shaDigests.proved
end Go.Proofs.Ytmajmmknpajcgaa
