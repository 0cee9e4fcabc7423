import Derived.Test.YtimhmmeoliagjaaDoorCards
import Derived.Test.YtimhmmeoliagjaaDoorEnhX
namespace Go.Proofs.YtimhmmeoliagjaaDoor
open Go Go.Eng Go.ChangeShapes Go.WideShapes Go.RowKit

mutual
theorem bulk_eq {H : Type} : ∀ d : DataW H, ebulk d ≤ Rows.uptoBulk d
 | .lit l => by cases l <;> simp [ebulk, Rows.uptoBulk]
 | .nil => by simp [ebulk, Rows.uptoBulk]
 | .ptr d => by have := bulk_eq d; simp only [ebulk, Rows.uptoBulk]; omega
 | .slice a b => by have := bulks_eq a; have := bulks_eq b; simp only [ebulk, Rows.uptoBulk]; omega
 | .agg a => by have := bulks_eq a; simp only [ebulk, Rows.uptoBulk]; omega
 | .iface n d => by have := bulk_eq d; simp only [ebulk, Rows.uptoBulk]; omega
 | .map a => by have := bulke_eq a; simp only [ebulk, Rows.uptoBulk]; omega
 | .held h => by simp [ebulk, Rows.uptoBulk]
theorem bulks_eq {H : Type} : ∀ l : List (DataW H), ebulkAll l ≤ Rows.uptoBulkAll l
 | [] => by simp [ebulkAll, Rows.uptoBulkAll]
 | d :: l => by have := bulk_eq d; have := bulks_eq l; simp only [ebulkAll, Rows.uptoBulkAll]; omega
theorem bulke_eq {H : Type} : ∀ l : List (Lit × DataW H), ebulkEntries l ≤ Rows.uptoBulkEntries l
 | [] => by simp [ebulkEntries, Rows.uptoBulkEntries]
 | (k, d) :: l => by
  have := bulk_eq d
  have := bulke_eq l
  cases k <;> simp only [ebulkEntries, Rows.uptoBulkEntries, Rows.uptoBulkEntry] <;> omega
end
theorem bulk_list {α : Type} [Rp α] (hs : 0 < Rp.sz α) (x : List α) : x.length ≤ Rp.bulk x := by
 have := lengths (α := α) hs x
 have e : Rp.bulk x = (x.map Rp.bulk).sum + 1 := rfl
 omega
end Go.Proofs.YtimhmmeoliagjaaDoor
