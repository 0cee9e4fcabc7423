/- The bound on what comes in; kinds of the program's types. -/
import Derived.Test.YtjnpiaigiljpjaaRows
import Derived.Test.YtjnpiaigiljpjaaKL
import Derived.Test.YtjnpiaigiljpjaaEngX
import Derived.JoinedCond
import Derived.KernelRfl
set_option linter.unusedVariables false
set_option linter.unusedSimpArgs false
namespace Go.Proofs.Ytjnpiaigiljpjaa
open Go Go.Eng Go.ChangeShapes Go.WideShapes Go.RowKit

/-! ### the bound -/
mutual
theorem bulk_eq {H : Type} : ∀ d : DataW H, ebulk d ≤ Rows.uptoBulk d
  | .lit l => by cases l <;> simp [ebulk, Rows.uptoBulk]
  | .nil => by simp [ebulk, Rows.uptoBulk]
  | .ptr d => by have := bulk_eq d; simp only [ebulk, Rows.uptoBulk]; omega
  | .slice a b => by have := bulks_eq a; have := bulks_eq b; simp only [ebulk, Rows.uptoBulk]; omega
  | .agg a => by have := bulks_eq a; simp only [ebulk, Rows.uptoBulk]; omega
  | .iface n d => by have := bulk_eq d; simp only [ebulk, Rows.uptoBulk]; omega
  | .map a => by have := bulke_eq a; simp only [ebulk, Rows.uptoBulk]; omega
  | .held h => by simp [ebulk, Rows.uptoBulk]
theorem bulks_eq {H : Type} : ∀ l : List (DataW H), ebulkAll l ≤ Rows.uptoBulkAll l
  | [] => by simp [ebulkAll, Rows.uptoBulkAll]
  | d :: l => by have := bulk_eq d; have := bulks_eq l; simp only [ebulkAll, Rows.uptoBulkAll]; omega
theorem bulke_eq {H : Type} : ∀ l : List (Lit × DataW H), ebulkEntries l ≤ Rows.uptoBulkEntries l
  | [] => by simp [ebulkEntries, Rows.uptoBulkEntries]
  | (k, d) :: l => by
    have := bulk_eq d
    have := bulke_eq l
    cases k <;> simp only [ebulkEntries, Rows.uptoBulkEntries, Rows.uptoBulkEntry] <;> omega
end
theorem own : ownKnob Try.prog.godebug = none := by kernel_rfl
theorem laidOut : laidOutB Try.prog = true := by kernel_rfl

/-! ### kinds -/
theorem o_bytes : Opens Try.prog 22 (List UInt8) := opens_list Try.underlying22 (by kernel_rfl) (by decide) (opens_u8 Try.underlying5 (by kernel_rfl))
theorem rep_bytes {R : Nat → Prop} {H : Heap} {l : List UInt8} {v : Value} (h : Rp.rep R H l [v]) : Sl R H 1 v l.length (B (l.map UInt8.toNat)) := by
  obtain ⟨v', hv, cs, h1, h2⟩ := h
  obtain rfl : v = v' := by simpa using hv
  have : ∀ {xs : List UInt8} {cs : List Value}, RpL R H xs cs → cs = B (xs.map UInt8.toNat) := by
    intro xs cs h
    induction h with
    | nil => rfl
    | cons h t ih => rw [ih, show _ = _ from h]; rfl
  rw [← this h2]
  exact h1

theorem o_strs : Opens Try.prog 23 (List ByteArray) := opens_list Try.underlying23 (by kernel_rfl) (by decide) (opens_str Try.underlying9 (by kernel_rfl))
theorem rep_sli {α : Type} [Rp α] {R : Nat → Prop} {H : Heap} {l : List α} {v : Value} (h : Rp.rep R H l [v]) : Sli R H l v := by
  obtain ⟨v', hv, h⟩ := h
  obtain rfl : v = v' := by simpa using hv
  exact h
theorem byte_lt (l : List UInt8) : ∀ x ∈ l.map UInt8.toNat, x < 256 := fun x hx => by
  obtain ⟨y, _, rfl⟩ := List.mem_map.1 hx
  exact y.toNat_lt
theorem vol_bulk (l : List ByteArray) : vol l ≤ 9 * (l.map Rp.bulk).sum := by
  induction l with
  | nil => simp [vol]
  | cons s l ih => rw [vol_cons]; simp only [List.map_cons, List.sum_cons, Rp.bulk] at ih ⊢; omega
end Go.Proofs.Ytjnpiaigiljpjaa
