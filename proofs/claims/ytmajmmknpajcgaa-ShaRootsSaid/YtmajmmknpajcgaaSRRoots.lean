/- ShaRoots returns true and leaves its arguments as they were, for all arguments (the first form of the statement); no condition. -/
import Derived.Test.YtmajmmknpajcgaaSW
import Derived.Test.YtmajmmknpajcgaaSZ
import Derived.JoinedCond
import Derived.KernelRfl
set_option linter.unusedVariables false
set_option linter.unusedSimpArgs false
namespace Go.Proofs.Ytmajmmknpajcgaa
open Go Go.Eng Go.ChangeShapes Go.WideShapes Go.RowKit

namespace shaRoots
theorem contract (H : Type) (enc : TypeId × Value → H) (W : World) (base : Nat) (args : Array Value) (ds gs : List (DataW H)) (before : List MemPlace)
    (hval : ∀ (j : Nat) t v, Try.f3.params[j]? = some t → args[j]? = some v → Value.okWide Try.prog W .any base t v)
    (hW : DataW.Whole enc Try.prog Try.f3.params.toList Rows.shaRootsSpec.vars false W args.toList ds gs before) :
    Calls Try.prog 3 args W fun e W' => ∃ v, e = .returned v ∧ Rows.shaRootsSpec.post enc Try.prog Try.f3 false true false false W args v W' := by
  have hW' := hW
  obtain ⟨p, q, hA0, hV, rfl, hfz, hnd⟩ := hW
  have hA : DataW.TrodAll enc Try.prog W 0 (fun _ => true) true Try.f3.params.toList args.toList ds p := hA0
  rw [Try.params3] at hA hval
  obtain ⟨v0, vs0, d0, ds0, p0, q0, hargs0, rfl, rfl, t0, r0⟩ := trodAll_cons hA
  obtain ⟨v1, vs1, d1, ds1, p1, q1, hargs1, rfl, rfl, t1, r1⟩ := trodAll_cons r0
  obtain ⟨hl, rfl, rfl⟩ := trodAll_nil r1
  obtain rfl : args = #[v0, v1] := by cases args; simp_all
  obtain ⟨rfl, rfl⟩ := trodVars_none hV
  obtain ⟨V0, x0, a0, w0, s0, e0, b0⟩ := arg_int Try.underlying3 o_int (hval 0 3 v0 rfl rfl) t0 [] (WinOk.nil W)
  obtain ⟨V1, x1, a1, w1, s1, e1, b1⟩ := arg_int Try.underlying3 o_int (hval 1 3 v1 rfl rfl) t1 _ w0
  have e0 := rep_more V1 e0
  have s0 := s0.mono (mw_more _ V1)
  have e0' : [a0] = [Value.int .i64 x0] := e0.1
  have q0 : a0 = .int .i64 x0 := by injection e0'
  subst q0
  have e1' : [a1] = [Value.int .i64 x1] := e1.1
  have q1 : a1 = .int .i64 x1 := by injection e1'
  subst q1
  obtain ⟨H', ⟨N, hN⟩⟩ := roots_law x0 x1 (hw ([] ++ V0 ++ V1))
  have hrun := hN N N (Nat.le_refl _) (Nat.le_refl _)
  refine (win_calls (args := [v0, v1]) (by kernel_rfl) EE_sound EE_mono Try.func3 (by kernel_rfl) (by kernel_rfl) w1 (fun h => by cases h) hrun (LRel.cons s0 (LRel.cons s1 LRel.nil))).mono fun e W' ⟨he, hB⟩ => ?_
  subst he
  exact ⟨_, rfl, post_of_true laidOut (t := 4) (by kernel_rfl) Try.underlying4 rfl (by kernel_rfl) hW' rfl hB⟩

set_option maxRecDepth 100000 in
theorem lifted (os : Os) (started : os.Started) (H : Type) (enc : TypeId × Value → H) (F : Stop.Interp) :
    ReturnsInHanded {} Try.checked os 3 .any ((OpenSpec.ofChange Rows.shaRootsSpec).pre6 enc Try.prog Try.f3 Rows.shaRootsRow.domain false) (((OpenSpec.ofChange Rows.shaRootsSpec).at F).post enc Try.prog Try.f3 false true false false) := by
  refine returnsInHanded_of_change (C := Try.checked) (s := Rows.shaRootsSpec) own started (by kernel_rfl) Try.func3
    (ChangeSpec.witness6 (enc := enc) (C := Try.checked) (s := Rows.shaRootsSpec) false ⟨#[], #[.int .i64 0, .int .i64 0], []⟩ 8 (by kernel_rfl) (by kernel_rfl) (by kernel_rfl) (by kernel_rfl)) ?_
  intro W base args ds gs before hval hW _ _
  exact contract H enc W base args ds gs before hval hW
theorem proved : Rows.ShaRootsSaid :=
  OpenClaim.holds_of_cond 3 Try.f3 rfl rfl rfl rfl rfl rfl rfl ⟨rfl, rfl, rfl, rfl, rfl⟩ rfl rfl rfl rfl rfl (by kernel_rfl) Try.func3 (by kernel_rfl)
    (of_decide_eq_true (by kernel_rfl)) (by unfold Func.isWrapper; first | (rw [if_pos (by decide +kernel)]; kernel_rfl) | (rw [if_neg (by decide +kernel)]; exact ⟨rfl, rfl⟩))
    (fun os started H enc _ F => lifted os started H enc F)
end shaRoots
#print axioms shaRoots.proved
end Go.Proofs.Ytmajmmknpajcgaa
