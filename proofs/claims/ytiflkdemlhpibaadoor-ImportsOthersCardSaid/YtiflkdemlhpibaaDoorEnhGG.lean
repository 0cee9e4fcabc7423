/- strconv.Itoa of small numbers, told ahead. -/
import Derived.Test.YtiflkdemlhpibaaDoorEnhAA
import Derived.Lib.ItoaNum
set_option linter.unusedVariables false
namespace Go.Eng
open Go Go.RowKit

/-- The digits of a number below 100. -/
def dg2 (k : Nat) : List UInt8 := if k < 10 then [UInt8.ofNat (48 + k)] else [UInt8.ofNat (48 + k / 10), UInt8.ofNat (48 + k % 10)]
theorem dg2_eq {k : Nat} (h : k < 100) : Lib.decDigits k = dg2 k := by
  unfold dg2
  split
  · rename_i h1; exact Lib.decDigits_one h1
  · rename_i h1; exact Lib.decDigits_two h1 h
def itoX (args : List Value) (H : Heap) : Option (Value × Heap) := match args with
  | [.int .i64 z] => if 0 ≤ z ∧ z < 100 then some (.string (bs (dg2 z.toNat)), H) else none
  | _ => none
def itoE (f : FuncId) : Ext := fun g => if g = f then some itoX else none
theorem itoX_inv {args : List Value} {H H' : Heap} {v : Value} (h : itoX args H = some (v, H')) : ∃ k : Nat, args = [.int .i64 (k : Int)] ∧ k < 100 ∧ v = .string (bs (dg2 k)) ∧ H' = H := by
  unfold itoX at h
  split at h
  · rename_i z
    split at h
    · rename_i hc
      simp only [Option.some.injEq, Prod.mk.injEq] at h
      obtain ⟨k, rfl⟩ := Int.eq_ofNat_of_zero_le hc.1
      exact ⟨k, rfl, by omega, h.1.symm, h.2.symm⟩
    · cases h
  · cases h
theorem itoE_mono (f : FuncId) : ExtMono (itoE f) := fun g k h f' args H v H' hk => by
  unfold itoE at h
  split at h
  · injection h with h; subst h
    obtain ⟨_, _, _, _, rfl⟩ := itoX_inv hk
    exact Mono.refl _
  · cases h
theorem itoE_sound {P : Program} {gl : Bool} {f : FuncId} (hc : ∀ (k : Nat), k < 100 → ∀ w : World, Calls P f #[.int .i64 (k : Int)] w fun e w' => e = .returned (.string ⟨(Lib.decDigits k).toArray⟩) ∧ w' = w) : ExtSound P gl (itoE f) := by
  intro g k hk args H v H2 hr m w args' ha hrel hl hG
  unfold itoE at hk
  split at hk
  case isFalse => cases hk
  rename_i he
  subst he
  injection hk with hk; subst hk
  obtain ⟨n, rfl, h1, rfl, rfl⟩ := itoX_inv hr
  obtain rfl := ha.eq_flat (by rfl)
  refine (hc n h1 w).mono fun e w' ⟨he, hB⟩ => ⟨m, _, by rw [he, dg2_eq h1]; rfl, .flat rfl, by rw [hB]; exact Step.refl hrel⟩
end Go.Eng
