/- The kind of a sum's words. -/
import Derived.Test.YtmajmmknpajcgaaSW
import Derived.Test.YtmajmmknpajcgaaUB
set_option linter.unusedVariables false
set_option linter.unusedSimpArgs false
namespace Go.Proofs.Ytmajmmknpajcgaa
open Go Go.Eng Go.ChangeShapes Go.WideShapes Go.RowKit
theorem rep_words8 {R : Nat → Prop} {H : Heap} {x : Arr 8 UInt32} {cs : List Value} (h : Rp.rep R H x cs) : ∃ s : S8, cs = WC s.l := by
  obtain ⟨l, hl⟩ := x
  have hc : cs = WC l := rep_word h
  match l, hl, hc with
  | [a, b, c, d, e, f, g, i], _, hc => exact ⟨⟨a, b, c, d, e, f, g, i⟩, hc⟩
mutual
theorem bulk_eq {H : Type} : ∀ d : DataW H, ebulk d ≤ Rows.uptoBulk d
  | .lit l => by cases l <;> simp [ebulk, Rows.uptoBulk]
  | .nil => by simp [ebulk, Rows.uptoBulk]
  | .ptr d => by have := bulk_eq d; simp only [ebulk, Rows.uptoBulk]; omega
  | .slice a b => by have := bulks_eq a; have := bulks_eq b; simp only [ebulk, Rows.uptoBulk]; omega
  | .agg a => by have := bulks_eq a; simp only [ebulk, Rows.uptoBulk]; omega
  | .iface n d => by have := bulk_eq d; simp only [ebulk, Rows.uptoBulk]; omega
  | .map a => by have := bulke_eq a; simp only [ebulk, Rows.uptoBulk]; omega
  | .held h => by simp [ebulk, Rows.uptoBulk]
theorem bulks_eq {H : Type} : ∀ l : List (DataW H), ebulkAll l ≤ Rows.uptoBulkAll l
  | [] => by simp [ebulkAll, Rows.uptoBulkAll]
  | d :: l => by have := bulk_eq d; have := bulks_eq l; simp only [ebulkAll, Rows.uptoBulkAll]; omega
theorem bulke_eq {H : Type} : ∀ l : List (Lit × DataW H), ebulkEntries l ≤ Rows.uptoBulkEntries l
  | [] => by simp [ebulkEntries, Rows.uptoBulkEntries]
  | (k, d) :: l => by
    have := bulk_eq d
    have := bulke_eq l
    cases k <;> simp only [ebulkEntries, Rows.uptoBulkEntries, Rows.uptoBulkEntry] <;> omega
end
end Go.Proofs.Ytmajmmknpajcgaa
