/- RegexParts returns true and leaves its arguments as they were, for all arguments (the first form of the statement); the two tables that the row lists lie as their initialisers lay them; no other condition. -/
import Derived.Test.YtimhmmeoliagjaaDoorZR
import Derived.Deep.DeepWitnessRowRef
import Derived.Test.YtimhmmeoliagjaaDoorZD
set_option linter.unusedVariables false
set_option linter.unusedSimpArgs false
set_option maxRecDepth 100000
namespace Go.Proofs.YtimhmmeoliagjaaDoor
open Go Go.Eng Go.ChangeShapes Go.WideShapes Go.RowKit

namespace regexParts
theorem contract (H : Type) (enc : TypeId × Value → H) (W : World) (base : Nat) (args : Array Value) (ds gs : List (DataW H)) (before : List MemPlace)
    (hval : ∀ (j : Nat) t v, Tryd.f7.params[j]? = some t → args[j]? = some v → Value.okWide Tryd.prog W .any base t v)
    (hW : DataW.Whole enc Tryd.prog Tryd.f7.params.toList Rows.regexPartsSpec.vars false W args.toList ds gs before) (hL : laidMetH Tryd.prog laidL W) :
    Calls Tryd.prog 7 args W fun e W' => ∃ v, e = .returned v ∧ Rows.regexPartsSpec.post enc Tryd.prog Tryd.f7 false true false false W args v W' := by
  have hW' := hW
  obtain ⟨bb, oo, hW0⟩ := W0_ok hL
  obtain ⟨p, q, hA0, hV, rfl, hfz, hnd⟩ := hW
  have hA : DataW.TrodAll enc Tryd.prog W 0 (fun _ => true) true Tryd.f7.params.toList args.toList ds p := hA0
  rw [Tryd.params7] at hA hval
  obtain ⟨v0, vs0, d0, ds0, p0, q0, hargs0, rfl, rfl, t0, r0⟩ := trodAll_cons hA
  obtain ⟨v1, vs1, d1, ds1, p1, q1, hargs1, rfl, rfl, t1, r1⟩ := trodAll_cons r0
  obtain ⟨v2, vs2, d2, ds2, p2, q2, hargs2, rfl, rfl, t2, r2⟩ := trodAll_cons r1
  obtain ⟨hl, rfl, rfl⟩ := trodAll_nil r2
  obtain rfl : args = #[v0, v1, v2] := by cases args; simp_all
  obtain ⟨rfl, rfl⟩ := trodVars_none hV
  obtain ⟨V0, x0, a0, w0, s0, e0, b0⟩ := arg_struct Tryd.underlying24 o_rex (hval 0 24 v0 rfl rfl) t0 (W0 bb oo) hW0
  obtain ⟨V1, x1, a1, w1, s1, e1, b1⟩ := arg_struct Tryd.underlying24 o_rex (hval 1 24 v1 rfl rfl) t1 _ w0
  obtain ⟨V2, x2, a2, w2, s2, e2, b2⟩ := arg_slice Tryd.underlying35 o_bytes (hval 2 35 v2 rfl rfl) t2 _ w1
  have e0 := rep_more V1 e0
  have s0 := s0.mono (mw_more _ V1)
  have e0 := rep_more V2 e0
  have s0 := s0.mono (mw_more _ V2)
  have e1 := rep_more V2 e1
  have s1 := s1.mono (mw_more _ V2)
  have gp : W0 bb oo <+: W0 bb oo := List.prefix_refl _
  have gp := gp.trans (List.prefix_append _ V0)
  have gp := gp.trans (List.prefix_append _ V1)
  have gp := gp.trans (List.prefix_append _ V2)
  have hLg := W0_L gp
  obtain ⟨c0, q0, n0a, n0b, n0c⟩ := rep_rex e0
  subst q0
  obtain ⟨c1, q1, n1a, n1b, n1c⟩ := rep_rex e1
  subst q1
  have y2 := rep_bytes e2
  obtain ⟨H', ⟨N, hN⟩, _⟩ := parts_ok hLg n0a n1a n0c n1c y2
  have hrun := hN N N (Nat.le_refl _) (Nat.le_refl _)
  refine (win_calls (args := [v0, v1, v2]) (by kernel_rfl) EX_sound EX_mono Tryd.func7 (by kernel_rfl) (by kernel_rfl) w2 (W0_G gp) hrun (LRel.cons s0 (LRel.cons s1 (LRel.cons s2 LRel.nil)))).mono fun e W' ⟨he, hB⟩ => ?_
  subst he
  exact ⟨_, rfl, post_of_true laidOut (t := 4) (by kernel_rfl) Tryd.underlying4 rfl (by kernel_rfl) hW' rfl hB⟩


theorem laid_met (os : Os) : laidMet Tryd.prog Rows.regexPartsRow.laid ((laidWorld os).forCall (fun _ _ => 0) ⟨#[], #[.agg #[.slice none 0 0], .agg #[.slice none 0 0], .slice none 0 0], []⟩).memory :=
  laidMet_of_run3 8 (by kernel_rfl) (by kernel_rfl) (by kernel_rfl)
theorem reads (os : Os) {H : Type} (enc : TypeId × Value → H) : ∃ places, DataW.whole enc Tryd.prog ((laidWorld os).forCall (fun _ _ => 0) ⟨#[], #[.agg #[.slice none 0 0], .agg #[.slice none 0 0], .slice none 0 0], []⟩).memory Tryd.f7.params.toList Rows.regexPartsSpec.vars false (#[.agg #[.slice none 0 0], .agg #[.slice none 0 0], .slice none 0 0] : Array Value).toList 8 = some ([.agg [.nil], .agg [.nil], .nil], [], places) :=
  ⟨[], by kernel_rfl⟩
set_option maxRecDepth 100000 in
theorem lifted (os : Os) (started : os.Started) (H : Type) (enc : TypeId × Value → H) (F : Stop.Interp) :
    ReturnsInHanded {} Tryd.checked os 7 .any ((OpenSpec.ofChange Rows.regexPartsSpec).preRow enc Tryd.prog Tryd.f7 Rows.regexPartsRow.domain false Rows.regexPartsRow.laid) (((OpenSpec.ofChange Rows.regexPartsSpec).at F).post enc Tryd.prog Tryd.f7 false true false false) := by
  obtain ⟨places, hx⟩ := reads os enc
  refine returnsInHanded_of_row (C := Tryd.checked) (s := OpenSpec.ofChange Rows.regexPartsSpec) own started (by kernel_rfl) Tryd.func7
    (witness_row_atRef (enc := enc) (C := Tryd.checked) false (laidWorld os) #[.agg #[.slice none 0 0], .agg #[.slice none 0 0], .slice none 0 0] rfl (by kernel_rfl) (by kernel_rfl) (by kernel_rfl)
      (OpenSpec.preRow_of_cond 8 hx (by kernel_rfl) (fun k hk => by cases hk) (by kernel_rfl) (laid_met os))) ?_
  intro W base args ds gs before hval hW _ hcond _ hL _ _
  exact contract H enc W base args ds gs before hval hW hL
theorem said : Rows.RegexPartsSaid :=
  OpenClaim.holds_of_cond 7 Tryd.f7 rfl rfl rfl rfl rfl rfl rfl ⟨rfl, rfl, rfl, rfl, rfl⟩ rfl rfl rfl rfl rfl (by kernel_rfl) Tryd.func7 (by kernel_rfl)
    (of_decide_eq_true (by kernel_rfl)) (by unfold Func.isWrapper; first | (rw [if_pos (by decide +kernel)]; kernel_rfl) | (rw [if_neg (by decide +kernel)]; exact ⟨rfl, rfl⟩))
    (fun os started H enc _ F => by rw [OpenClaim.pre_eq_preRow]; exact lifted os started H enc F)
theorem plain (f : FuncId) (fn : Func) (hf : Tryd.pinned.checked.prog.funcNamed "incunable/incunablelaw09.RegexParts" = some f) (hfn : Tryd.pinned.checked.prog.funcs[f]? = some fn) :
    true = Tryd.pinned.checked.prog.looks [] ∧ ∀ (j : Nat) t, fn.params[j]? = some t → Tryd.pinned.checked.prog.wantsStandIn t = false := by
  obtain rfl : f = 7 := Option.some.inj ((show Tryd.prog.funcNamed "incunable/incunablelaw09.RegexParts" = some 7 by kernel_rfl).symm.trans hf) |>.symm
  obtain rfl : fn = Tryd.f7 := (Option.some.inj (Tryd.func7.symm.trans hfn)).symm
  refine ⟨by kernel_rfl, fun j t ht => ?_⟩
  rw [Tryd.params7] at ht
  have hm := Array.mem_of_getElem? ht
  have ha : (#[24, 24, 35] : Array TypeId).toList.all (fun t => !(Tryd.prog.wantsStandIn t)) = true := by kernel_rfl
  have := List.all_eq_true.1 ha t (by simpa using hm)
  show Tryd.prog.wantsStandIn t = false
  simpa using this
theorem proved : Rows.RegexPartsCardSaid :=
  Claim7.holds_tied_plain_at .later [] _ _ _ _ said (fun _ h => by cases h) (by kernel_rfl) (fun _ h => by cases h) regexParts_row_tie rfl ⟨rfl, rfl⟩ (by kernel_rfl) rfl plain (by kernel_rfl)
end regexParts
#print axioms regexParts.proved
end Go.Proofs.YtimhmmeoliagjaaDoor
