/- Bounds; KeysBytes' row. -/
import Derived.Test.YtjnpiaigiljpjaaRows
import Derived.Test.YtjnpiaigiljpjaaKJ
import Derived.Test.YtjnpiaigiljpjaaEngX
import Derived.JoinedCond
import Derived.KernelRfl
set_option linter.unusedVariables false
set_option linter.unusedSimpArgs false
namespace Go.Proofs.Ytjnpiaigiljpjaa
open Go Go.Eng Go.ChangeShapes Go.WideShapes Go.RowKit

/-! ### the bound -/
mutual
theorem bulk_eq {H : Type} : ∀ d : DataW H, ebulk d ≤ Rows.uptoBulk d
  | .lit l => by cases l <;> simp [ebulk, Rows.uptoBulk]
  | .nil => by simp [ebulk, Rows.uptoBulk]
  | .ptr d => by have := bulk_eq d; simp only [ebulk, Rows.uptoBulk]; omega
  | .slice a b => by have := bulks_eq a; have := bulks_eq b; simp only [ebulk, Rows.uptoBulk]; omega
  | .agg a => by have := bulks_eq a; simp only [ebulk, Rows.uptoBulk]; omega
  | .iface n d => by have := bulk_eq d; simp only [ebulk, Rows.uptoBulk]; omega
  | .map a => by have := bulke_eq a; simp only [ebulk, Rows.uptoBulk]; omega
  | .held h => by simp [ebulk, Rows.uptoBulk]
theorem bulks_eq {H : Type} : ∀ l : List (DataW H), ebulkAll l ≤ Rows.uptoBulkAll l
  | [] => by simp [ebulkAll, Rows.uptoBulkAll]
  | d :: l => by have := bulk_eq d; have := bulks_eq l; simp only [ebulkAll, Rows.uptoBulkAll]; omega
theorem bulke_eq {H : Type} : ∀ l : List (Lit × DataW H), ebulkEntries l ≤ Rows.uptoBulkEntries l
  | [] => by simp [ebulkEntries, Rows.uptoBulkEntries]
  | (k, d) :: l => by
    have := bulk_eq d
    have := bulke_eq l
    cases k <;> simp only [ebulkEntries, Rows.uptoBulkEntries, Rows.uptoBulkEntry] <;> omega
end
theorem own : ownKnob Try.prog.godebug = none := by kernel_rfl
theorem laidOut : laidOutB Try.prog = true := by kernel_rfl

/-! ### kinds -/
theorem o_bytes : Opens Try.prog 22 (List UInt8) := opens_list Try.underlying22 (by kernel_rfl) (by decide) (opens_u8 Try.underlying5 (by kernel_rfl))
theorem rep_bytes {R : Nat → Prop} {H : Heap} {l : List UInt8} {v : Value} (h : Rp.rep R H l [v]) : Sl R H 1 v l.length (B (l.map UInt8.toNat)) := by
  obtain ⟨v', hv, cs, h1, h2⟩ := h
  obtain rfl : v = v' := by simpa using hv
  have : ∀ {xs : List UInt8} {cs : List Value}, RpL R H xs cs → cs = B (xs.map UInt8.toNat) := by
    intro xs cs h
    induction h with
    | nil => rfl
    | cons h t ih => rw [ih, show _ = _ from h]; rfl
  rw [← this h2]
  exact h1

namespace keysBytes
theorem contract (H : Type) (enc : TypeId × Value → H) (W : World) (base : Nat) (args : Array Value) (ds gs : List (DataW H)) (before : List MemPlace)
    (hval : ∀ (j : Nat) t v, Try.f4.params[j]? = some t → args[j]? = some v → Value.okWide Try.prog W .any base t v)
    (hW : DataW.Whole enc Try.prog Try.f4.params.toList Rows.keysBytesSpec.vars false W args.toList ds gs before) (hk : Rows.uptoSmall H (ds ++ gs) = true) :
    Calls Try.prog 4 args W fun e W' => ∃ v, e = .returned v ∧ Rows.keysBytesSpec.post enc Try.prog Try.f4 false true false false W args v W' := by
  have hW' := hW
  obtain ⟨p, q, hA0, hV, rfl, hfz, hnd⟩ := hW
  have hA : DataW.TrodAll enc Try.prog W 0 (fun _ => true) true Try.f4.params.toList args.toList ds p := hA0
  rw [Try.params4] at hA hval
  obtain ⟨v0, v1, d0, d1, p0, p1, rfl, rfl, rfl, h0, h1⟩ := trodAll_two hA
  obtain ⟨rfl, rfl⟩ := trodVars_none hV
  have hb : Rows.uptoBulkAll ([d0, d1] ++ []) ≤ 1048576 := of_decide_eq_true hk
  have hb := Nat.le_trans (bulks_eq _) hb
  simp only [List.append_nil, ebulkAll] at hb
  obtain ⟨V0, x0, a0, w0, r0, e0, b0⟩ := arg_slice Try.underlying22 o_bytes (hval 0 22 v0 rfl rfl) h0 [] (WinOk.nil W)
  obtain ⟨V1, x1, a1, w1, r1, e1, b1⟩ := arg_slice Try.underlying22 o_bytes (hval 1 22 v1 rfl rfl) h1 _ w0
  have l0 := lengths (α := UInt8) (by decide) x0
  have l1 := lengths (α := UInt8) (by decide) x1
  have hlt : ∀ (l : List UInt8), ∀ x ∈ l.map UInt8.toNat, x < 256 := fun l x hx => by
    obtain ⟨y, _, rfl⟩ := List.mem_map.1 hx
    exact y.toNat_lt
  simp only [Rp.bulk] at b0 b1 l0 l1
  obtain ⟨H', N, hN⟩ := bytes_law (rep_bytes (rep_more V1 e0)) (rep_bytes e1) (hlt x0) (hlt x1) (by simp; omega) (by simp; omega)
  have hrun := hN N N (Nat.le_refl _) (Nat.le_refl _)
  refine (win_calls (args := [v0, v1]) (by kernel_rfl) EE_sound (once_mono _ _) w1 hrun (LRel.cons (r0.mono (mw_more _ _)) (LRel.cons r1 LRel.nil))).mono fun e W' ⟨he, hB⟩ => ?_
  subst he
  exact ⟨_, rfl, post_of_true laidOut (t := 4) (by kernel_rfl) Try.underlying4 rfl (by kernel_rfl) hW' rfl hB⟩

set_option maxRecDepth 100000 in
theorem lifted (os : Os) (started : os.Started) (H : Type) (enc : TypeId × Value → H) (F : Stop.Interp) :
    ReturnsInHanded {} Try.checked os 4 .any ((Rows.OpenSpec.upto Rows.keysBytesSpec).pre6 enc Try.prog Try.f4 Rows.keysBytesUptoRow.domain false) (((Rows.OpenSpec.upto Rows.keysBytesSpec).at F).post enc Try.prog Try.f4 false true false false) := by
  refine returnsInHanded_of_cond (C := Try.checked) (s := Rows.OpenSpec.upto Rows.keysBytesSpec) (k := Rows.uptoSmall) rfl own started (by kernel_rfl) Try.func4
    (OpenSpec.witness (enc := enc) (C := Try.checked) (s := Rows.OpenSpec.upto Rows.keysBytesSpec) (k := Rows.uptoSmall) rfl false ⟨#[], #[.slice none 0 0, .slice none 0 0], []⟩ 8 (by kernel_rfl) (by kernel_rfl) (by kernel_rfl)
      (x := ([.nil, .nil], [], [])) (by kernel_rfl) rfl (by kernel_rfl)) ?_
  intro W base args ds gs before hval hW _ hk _
  exact contract H enc W base args ds gs before hval hW hk
theorem proved : Rows.KeysBytesUptoSaid :=
  OpenClaim.holds_of_cond 4 Try.f4 rfl rfl rfl rfl rfl rfl rfl ⟨rfl, rfl, rfl, rfl, rfl⟩ rfl rfl rfl rfl rfl (by kernel_rfl) Try.func4 (by kernel_rfl)
    (of_decide_eq_true (by kernel_rfl)) (by unfold Func.isWrapper; first | (rw [if_pos (by decide +kernel)]; kernel_rfl) | (rw [if_neg (by decide +kernel)]; exact ⟨rfl, rfl⟩))
    (fun os started H enc _ F => lifted os started H enc F)
end keysBytes
#print axioms keysBytes.proved
end Go.Proofs.Ytjnpiaigiljpjaa
