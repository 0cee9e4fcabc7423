import Derived.Test.YtimhmmeoliagjaaDoorZR
import Derived.Deep.DeepWitnessRowRef
import Derived.Test.YtimhmmeoliagjaaDoorZT
import Derived.Test.YtimhmmeoliagjaaDoorZU
set_option linter.unusedVariables false
set_option linter.unusedSimpArgs false
set_option maxRecDepth 100000
namespace Go.Proofs.YtimhmmeoliagjaaDoor
open Go Go.Eng Go.ChangeShapes Go.WideShapes Go.RowKit

namespace regexPrints
theorem contract (H : Type) (enc : TypeId × Value → H) (W : World) (base : Nat) (args : Array Value) (ds gs : List (DataW H)) (before : List MemPlace)
  (hval : ∀ (j : Nat) t v, Tryd.f3.params[j]? = some t → args[j]? = some v → Value.okWide Tryd.prog W .any base t v)
  (hW : DataW.Whole enc Tryd.prog Tryd.f3.params.toList Rows.regexPrintsSpec.vars false W args.toList ds gs before) (hk : Rows.uptoSmall H (ds ++ gs) = true) (hL : laidMetH Tryd.prog laidL W) :
  Calls Tryd.prog 3 args W fun e W' => ∃ v, e = .returned v ∧ Rows.regexPrintsSpec.post enc Tryd.prog Tryd.f3 false true false false W args v W' := by
 have hW' := hW
 obtain ⟨bb, oo, hW0⟩ := W0_ok hL
 obtain ⟨p, q, hA0, hV, rfl, hfz, hnd⟩ := hW
 have hA : DataW.TrodAll enc Tryd.prog W 0 (fun _ => true) true Tryd.f3.params.toList args.toList ds p := hA0
 rw [Tryd.params3] at hA hval
 obtain ⟨v0, vs0, d0, ds0, p0, q0, hargs0, rfl, rfl, t0, r0⟩ := trodAll_cons hA
 obtain ⟨hl, rfl, rfl⟩ := trodAll_nil r0
 obtain rfl : args = #[v0] := by cases args; simp_all
 obtain ⟨rfl, rfl⟩ := trodVars_none hV
 have hb : Rows.uptoBulkAll ([d0] ++ []) ≤ 1048576 := of_decide_eq_true hk
 have hb := Nat.le_trans (bulks_eq _) hb
 simp only [List.append_nil, ebulkAll] at hb
 obtain ⟨V0, x0, a0, w0, s0, e0, b0⟩ := arg_struct Tryd.underlying24 o_rex (hval 0 24 v0 rfl rfl) t0 (W0 bb oo) hW0
 have gp : W0 bb oo <+: W0 bb oo := List.prefix_refl _
 have gp := gp.trans (List.prefix_append _ V0)
 have hLg := W0_L gp
 obtain ⟨c0, q0, n0a, n0b, n0c⟩ := rep_rex e0
 subst q0
 have z0 := bulk_list (by decide) x0.1
 have z1 : Rp.bulk x0.1 + 0 ≤ ebulk d0 := b0
 have z2 : (x0.1.map toNd).length ≤ 1048576 := by rw [List.length_map]; omega
 obtain ⟨H', ⟨N, hN⟩, _⟩ := printsLaw_ok hLg n0a n0b n0c z2
 have hrun := hN N N (Nat.le_refl _) (Nat.le_refl _)
 refine (win_calls (args := [v0]) (by kernel_rfl) EX_sound EX_mono Tryd.func3 (by kernel_rfl) (by kernel_rfl) w0 (W0_G gp) hrun (LRel.cons s0 LRel.nil)).mono fun e W' ⟨he, hB⟩ => ?_
 subst he
 exact ⟨_, rfl, post_of_true laidOut (t := 4) (by kernel_rfl) Tryd.underlying4 rfl (by kernel_rfl) hW' rfl hB⟩


theorem laid_met (os : Os) : laidMet Tryd.prog Rows.regexPrintsUptoRow.laid ((laidWorld os).forCall (fun _ _ => 0) ⟨#[], #[.agg #[.slice none 0 0]], []⟩).memory :=
 laidMet_of_run3 8 (by kernel_rfl) (by kernel_rfl) (by kernel_rfl)
theorem reads (os : Os) {H : Type} (enc : TypeId × Value → H) : ∃ places, DataW.whole enc Tryd.prog ((laidWorld os).forCall (fun _ _ => 0) ⟨#[], #[.agg #[.slice none 0 0]], []⟩).memory Tryd.f3.params.toList Rows.regexPrintsSpec.vars false (#[.agg #[.slice none 0 0]] : Array Value).toList 8 = some ([.agg [.nil]], [], places) :=
 ⟨[], by kernel_rfl⟩
set_option maxRecDepth 100000 in
theorem lifted (os : Os) (started : os.Started) (H : Type) (enc : TypeId × Value → H) (F : Stop.Interp) :
  ReturnsInHanded {} Tryd.checked os 3 .any ((Rows.OpenSpec.upto Rows.regexPrintsSpec).preRow enc Tryd.prog Tryd.f3 Rows.regexPrintsUptoRow.domain false Rows.regexPrintsUptoRow.laid) (((Rows.OpenSpec.upto Rows.regexPrintsSpec).at F).post enc Tryd.prog Tryd.f3 false true false false) := by
 obtain ⟨places, hx⟩ := reads os enc
 refine returnsInHanded_of_row (C := Tryd.checked) (s := Rows.OpenSpec.upto Rows.regexPrintsSpec) own started (by kernel_rfl) Tryd.func3
  (witness_row_atRef (enc := enc) (C := Tryd.checked) false (laidWorld os) #[.agg #[.slice none 0 0]] rfl (by kernel_rfl) (by kernel_rfl) (by kernel_rfl)
   (OpenSpec.preRow_of_cond 8 hx (by kernel_rfl) (fun k hk => by cases hk; kernel_rfl) (by kernel_rfl) (laid_met os))) ?_
 intro W base args ds gs before hval hW _ hcond _ hL _ _
 exact contract H enc W base args ds gs before hval hW (hcond _ rfl) hL
theorem said : Rows.RegexPrintsUptoSaid :=
 OpenClaim.holds_of_cond 3 Tryd.f3 rfl rfl rfl rfl rfl rfl rfl ⟨rfl, rfl, rfl, rfl, rfl⟩ rfl rfl rfl rfl rfl (by kernel_rfl) Tryd.func3 (by kernel_rfl)
  (of_decide_eq_true (by kernel_rfl)) (by unfold Func.isWrapper; first | (rw [if_pos (by decide +kernel)]; kernel_rfl) | (rw [if_neg (by decide +kernel)]; exact ⟨rfl, rfl⟩))
  (fun os started H enc _ F => by rw [OpenClaim.pre_eq_preRow]; exact lifted os started H enc F)
theorem plain (f : FuncId) (fn : Func) (hf : Tryd.pinned.checked.prog.funcNamed "incunable/incunablelaw09.RegexPrints" = some f) (hfn : Tryd.pinned.checked.prog.funcs[f]? = some fn) :
  true = Tryd.pinned.checked.prog.looks [] ∧ ∀ (j : Nat) t, fn.params[j]? = some t → Tryd.pinned.checked.prog.wantsStandIn t = false := by
 obtain rfl : f = 3 := Option.some.inj ((show Tryd.prog.funcNamed "incunable/incunablelaw09.RegexPrints" = some 3 by kernel_rfl).symm.trans hf) |>.symm
 obtain rfl : fn = Tryd.f3 := (Option.some.inj (Tryd.func3.symm.trans hfn)).symm
 refine ⟨by kernel_rfl, fun j t ht => ?_⟩
 rw [Tryd.params3] at ht
 have hm := Array.mem_of_getElem? ht
 have ha : (#[24] : Array TypeId).toList.all (fun t => !(Tryd.prog.wantsStandIn t)) = true := by kernel_rfl
 have := List.all_eq_true.1 ha t (by simpa using hm)
 show Tryd.prog.wantsStandIn t = false
 simpa using this
theorem proved : Rows.RegexPrintsUptoCardSaid :=
 Claim7.holds_tied_plain_at .later [] _ _ _ _ said (fun _ h => by cases h) (by kernel_rfl) (fun _ h => by cases h) regexPrintsUpto_row_tie rfl ⟨rfl, rfl⟩ (by kernel_rfl) rfl plain (by kernel_rfl)
end regexPrints
#print axioms regexPrints.proved
end Go.Proofs.YtimhmmeoliagjaaDoor
