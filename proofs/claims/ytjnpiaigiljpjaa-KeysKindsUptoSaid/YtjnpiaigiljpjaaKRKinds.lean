/- KeysKinds returns true and leaves its arguments as they were, for all arguments of bulk at most 1048576 together (the second form of the statement); no other condition. -/
import Derived.Test.YtjnpiaigiljpjaaKX
import Derived.JoinedCond
import Derived.KernelRfl
set_option linter.unusedVariables false
set_option linter.unusedSimpArgs false
namespace Go.Proofs.Ytjnpiaigiljpjaa
open Go Go.Eng Go.ChangeShapes Go.WideShapes Go.RowKit

namespace keysKinds
theorem contract (H : Type) (enc : TypeId × Value → H) (W : World) (base : Nat) (args : Array Value) (ds gs : List (DataW H)) (before : List MemPlace)
    (hval : ∀ (j : Nat) t v, Try.f8.params[j]? = some t → args[j]? = some v → Value.okWide Try.prog W .any base t v)
    (hW : DataW.Whole enc Try.prog Try.f8.params.toList Rows.keysKindsSpec.vars false W args.toList ds gs before) (hk : Rows.uptoSmall H (ds ++ gs) = true) :
    Calls Try.prog 8 args W fun e W' => ∃ v, e = .returned v ∧ Rows.keysKindsSpec.post enc Try.prog Try.f8 false true false false W args v W' := by
  have hW' := hW
  obtain ⟨p, q, hA0, hV, rfl, hfz, hnd⟩ := hW
  have hA : DataW.TrodAll enc Try.prog W 0 (fun _ => true) true Try.f8.params.toList args.toList ds p := hA0
  rw [Try.params8] at hA hval
  obtain ⟨v0, vs0, d0, ds0, p0, q0, hargs0, rfl, rfl, t0, r0⟩ := trodAll_cons hA
  obtain ⟨v1, vs1, d1, ds1, p1, q1, hargs1, rfl, rfl, t1, r1⟩ := trodAll_cons r0
  obtain ⟨v2, vs2, d2, ds2, p2, q2, hargs2, rfl, rfl, t2, r2⟩ := trodAll_cons r1
  obtain ⟨hl, rfl, rfl⟩ := trodAll_nil r2
  obtain rfl : args = #[v0, v1, v2] := by cases args; simp_all
  obtain ⟨rfl, rfl⟩ := trodVars_none hV
  have hb : Rows.uptoBulkAll ([d0, d1, d2] ++ []) ≤ 1048576 := of_decide_eq_true hk
  have hb := Nat.le_trans (bulks_eq _) hb
  simp only [List.append_nil, ebulkAll] at hb
  obtain ⟨V0, x0, a0, w0, s0, e0, b0⟩ := arg_slice Try.underlying22 o_bytes (hval 0 22 v0 rfl rfl) t0 [] (WinOk.nil W)
  obtain ⟨V1, x1, a1, w1, s1, e1, b1⟩ := arg_slice Try.underlying23 o_strs (hval 1 23 v1 rfl rfl) t1 _ w0
  obtain ⟨V2, x2, a2, w2, s2, e2, b2⟩ := arg_array Try.underlying44 o_two (hval 2 44 v2 rfl rfl) t2 _ w1
  have e0 := rep_more V1 e0
  have s0 := s0.mono (mw_more _ V1)
  have e0 := rep_more V2 e0
  have s0 := s0.mono (mw_more _ V2)
  have e1 := rep_more V2 e1
  have s1 := s1.mono (mw_more _ V2)

  have l0 := lengths (α := UInt8) (by decide) x0
  have l1 := vol_bulk x1
  obtain ⟨g0, g1, c0, c1, rfl, r0, r1, hbk⟩ := two_rep e2
  rw [hbk] at b2
  have bb0 : (x0.map Rp.bulk).sum + 1 ≤ ebulk d0 := b0
  have bb1 : (x1.map Rp.bulk).sum + 1 ≤ ebulk d1 := b1
  obtain ⟨H', N, hN⟩ := kinds_law (rep_bytes e0) (byte_lt x0) (by simp; omega) (rep_sli e1) (by omega) r0 r1 (fits_of (by omega)) (fits_of (by omega))
  have hrun := hN N N (Nat.le_refl _) (Nat.le_refl _)
  refine (win_calls (args := [v0, v1, v2]) (by kernel_rfl) EE_sound (once_mono _ _) w2 hrun (LRel.cons s0 (LRel.cons s1 (LRel.cons s2 LRel.nil)))).mono fun e W' ⟨he, hB⟩ => ?_
  subst he
  exact ⟨_, rfl, post_of_true laidOut (t := 4) (by kernel_rfl) Try.underlying4 rfl (by kernel_rfl) hW' rfl hB⟩

set_option maxRecDepth 100000 in
theorem lifted (os : Os) (started : os.Started) (H : Type) (enc : TypeId × Value → H) (F : Stop.Interp) :
    ReturnsInHanded {} Try.checked os 8 .any ((Rows.OpenSpec.upto Rows.keysKindsSpec).pre6 enc Try.prog Try.f8 Rows.keysKindsUptoRow.domain false) (((Rows.OpenSpec.upto Rows.keysKindsSpec).at F).post enc Try.prog Try.f8 false true false false) := by
  refine returnsInHanded_of_cond (C := Try.checked) (s := Rows.OpenSpec.upto Rows.keysKindsSpec) (k := Rows.uptoSmall) rfl own started (by kernel_rfl) Try.func8
    (OpenSpec.witness (enc := enc) (C := Try.checked) (s := Rows.OpenSpec.upto Rows.keysKindsSpec) (k := Rows.uptoSmall) rfl false ⟨#[], #[.slice none 0 0, .slice none 0 0, .agg #[.slice none 0 0, .slice none 0 0, .slice none 0 0, .slice none 0 0, .slice none 0 0, .slice none 0 0, .slice none 0 0, .slice none 0 0, .slice none 0 0, .slice none 0 0]], []⟩ 8 (by kernel_rfl) (by kernel_rfl) (by kernel_rfl)
      (x := ([.nil, .nil, .agg [.agg [.nil, .nil, .nil, .nil, .nil], .agg [.nil, .nil, .nil, .nil, .nil]]], [], [])) (by kernel_rfl) rfl (by kernel_rfl)) ?_
  intro W base args ds gs before hval hW _ hk _
  exact contract H enc W base args ds gs before hval hW hk
theorem proved : Rows.KeysKindsUptoSaid :=
  OpenClaim.holds_of_cond 8 Try.f8 rfl rfl rfl rfl rfl rfl rfl ⟨rfl, rfl, rfl, rfl, rfl⟩ rfl rfl rfl rfl rfl (by kernel_rfl) Try.func8 (by kernel_rfl)
    (of_decide_eq_true (by kernel_rfl)) (by unfold Func.isWrapper; first | (rw [if_pos (by decide +kernel)]; kernel_rfl) | (rw [if_neg (by decide +kernel)]; exact ⟨rfl, rfl⟩))
    (fun os started H enc _ F => lifted os started H enc F)
end keysKinds
#print axioms keysKinds.proved
end Go.Proofs.Ytjnpiaigiljpjaa
