/- slices.Sort off the shelf; the closed example; kinds of the program's types. -/
import Derived.Test.YtiflkdemlhpibaaRows
import Derived.Test.YtiflkdemlhpibaaIH
import Derived.Test.YtiflkdemlhpibaaEnhFF
import Derived.Test.YtiflkdemlhpibaaEnhX
import Derived.Shelf.Lay
import Derived.Shelf.Sort.Plain
import Derived.Shelf.Slices.In.SortNone
import Derived.Ground.NamesProg
import Derived.JoinedCond
import Derived.KernelRfl
set_option linter.unusedVariables false
set_option linter.unusedSimpArgs false
namespace Go.Proofs
open Go.Shelf Go.RowKit
shelf_lay Lays.n189 Nm 189 at Try as Try.deepLaysSort
end Go.Proofs
namespace Go.Proofs.Ytiflkdemlhpibaa
open Go Go.Eng Go.ChangeShapes Go.WideShapes Go.RowKit

theorem sort_sound : ExtSound Try.prog false (srtE 20) := srtE_sound (fun blk off cap zs w h1 h2 h3 => Any.slices_Sort_int Try.deepLaysSort blk off cap zs w h1 h2 h3) (fun p cap w => Any.slices_Sort_int_none Try.deepLaysSort p cap w)
theorem awake_map : (acall Try.prog false (srtE 20) 90 10 [] Heap.empty).map (·.1) = some (.bool true) := by kernel_rfl
theorem EE_sound : ExtSound Try.prog false EE := by
  refine orE_sound ?_ sort_sound
  have h := awake_map
  cases hc : acall Try.prog false (srtE 20) 90 10 [] Heap.empty with
  | none => rw [hc] at h; cases h
  | some r =>
    obtain ⟨v, H'⟩ := r
    rw [hc] at h
    simp only [Option.map_some, Option.some.injEq] at h
    subst h
    exact once_soundE (by kernel_rfl) sort_sound (srtE_mono 20) Try.func10 (by kernel_rfl) (by kernel_rfl) hc
theorem EE_mono : ExtMono EE := orE_mono (once_mono _ _) (srtE_mono 20)
theorem own : ownKnob Try.prog.godebug = none := by kernel_rfl
theorem laidOut : laidOutB Try.prog = true := by kernel_rfl
theorem opens_txt {P : Program} {t : TypeId} (h : Opens P t ByteArray) : Opens P t Txt := ⟨h.1, fun enc w fuel cs d ps ht W hW => by
  obtain ⟨V, x, acs, h1, h2, h3, h4⟩ := h.2 enc w fuel cs d ps ht W hW
  exact ⟨V, x.data.toList, acs, h1, h2, by show acs = [.string (bs x.data.toList)]; rw [← bs_of]; exact h3, h4⟩⟩
theorem o_str : Opens Try.prog 9 Txt := opens_txt (opens_str Try.underlying9 (by kernel_rfl))
theorem o_en : Opens Try.prog 35 En := Opens.via _ (fun y => ⟨y.1, y.2.1⟩) (fun _ => rfl) (opens_struct Try.underlying35 (by kernel_rfl) (OpensF.cons rfl o_str (OpensF.cons rfl (opens_list Try.underlying32 (by kernel_rfl) (by decide) o_str) OpensF.nil)))
theorem o_files : Opens Try.prog 22 (List En) := opens_list Try.underlying22 (by kernel_rfl) (by decide) o_en
theorem rep_list {α : Type} [Rp α] {R : Nat → Prop} {H : Heap} {l : List α} {v : Value} (h : Rp.rep R H l [v]) : Sli R H l v := by
  obtain ⟨v', hv, h1⟩ := h
  obtain rfl : v = v' := by simpa using hv
  exact h1
end Go.Proofs.Ytiflkdemlhpibaa
