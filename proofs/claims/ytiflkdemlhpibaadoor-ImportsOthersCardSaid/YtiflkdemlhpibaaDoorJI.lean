/- slices.Sort and strconv.Itoa off the shelf; the closed example; kinds of the program's types; a world that holds the tables. -/
import Derived.Test.YtiflkdemlhpibaaDoorCards
import Derived.Test.YtiflkdemlhpibaaDoorTie
import Derived.Test.YtiflkdemlhpibaaDoorJN
import Derived.Test.YtiflkdemlhpibaaDoorEnhFF
import Derived.Test.YtiflkdemlhpibaaDoorEnhX
import Derived.WalkKit
import Derived.ProofKit
import Derived.OpenShut
import Derived.Deep.DeepHandedRow
import Derived.LaidLaws
import Derived.Deep.DeepLaidRun
import Derived.JoinedCond
import Derived.Shelf.Lay
import Derived.Shelf.Sort.Plain
import Derived.Shelf.Slices.In.SortNone
import Derived.Shelf.Strconv.Itoa3
import Derived.Ground.NamesProg
import Derived.KernelRfl
set_option linter.unusedVariables false
set_option linter.unusedSimpArgs false
namespace Go.Proofs
open Go.Shelf Go.RowKit
shelf_lay Lays.n189 Nm 189 at Tryd as Tryd.deepLaysSort
shelf_lay Lays.n171 Nm 171 at Tryd as Tryd.deepLaysItoa
end Go.Proofs
namespace Go.Proofs.YtiflkdemlhpibaaDoor
open Go Go.Eng Go.ChangeShapes Go.WideShapes Go.RowKit

theorem sort_sound : ExtSound Tryd.prog false (srtE 23) := srtE_sound (fun blk off cap zs w h1 h2 h3 => Any.slices_Sort_int Tryd.deepLaysSort blk off cap zs w h1 h2 h3) (fun p cap w => Any.slices_Sort_int_none Tryd.deepLaysSort p cap w)
theorem itoa_sound : ExtSound Tryd.prog false (itoE 14) := itoE_sound fun k hk w => Any.strconv_Itoa_small Tryd.deepLaysItoa k hk w
theorem awake_map : (acall Tryd.prog false (srtE 23) 90 8 [] Heap.empty).map (·.1) = some (.bool true) := by kernel_rfl
theorem EE_sound : ExtSound Tryd.prog false EE := by
  refine orE_sound ?_ (orE_sound sort_sound itoa_sound)
  have h := awake_map
  cases hc : acall Tryd.prog false (srtE 23) 90 8 [] Heap.empty with
  | none => rw [hc] at h; cases h
  | some r =>
    obtain ⟨v, H'⟩ := r
    rw [hc] at h
    simp only [Option.map_some, Option.some.injEq] at h
    subst h
    exact once_soundE (by kernel_rfl) sort_sound (srtE_mono 23) Tryd.func8 (by kernel_rfl) (by kernel_rfl) hc
theorem EE_mono : ExtMono EE := orE_mono (once_mono _ _) (orE_mono (srtE_mono 23) (itoE_mono 14))
theorem own : ownKnob Tryd.prog.godebug = none := by kernel_rfl
theorem laidOut : laidOutB Tryd.prog = true := by kernel_rfl
theorem o_int : Opens Tryd.prog 3 Int := opens_int Tryd.underlying3 (by kernel_rfl)
theorem o_rows : Opens Tryd.prog 22 (List (List Int)) := opens_list Tryd.underlying22 (by kernel_rfl) (by decide) (opens_list Tryd.underlying27 (by kernel_rfl) (by decide) o_int)
theorem rep_list {α : Type} [Rp α] {R : Nat → Prop} {H : Heap} {l : List α} {v : Value} (h : Rp.rep R H l [v]) : Sli R H l v := by
  obtain ⟨v', hv, h1⟩ := h
  obtain rfl : v = v' := by simpa using hv
  exact h1
noncomputable def lay (o : Obj) (cs : Array Value) : Obj := match o with
  | .cells _ t frozen => .cells cs t frozen
  | o => o
noncomputable def laidWorld (os : Os) : World :=
  { World.holding Tryd.prog os ⟨#[], #[], []⟩ with heap := (((World.holding Tryd.prog os ⟨#[], #[], []⟩).heap.modify 0 (fun o => lay o #[.int .u64 1, .int .u64 10, .int .u64 100, .int .u64 1000, .int .u64 10000, .int .u64 100000, .int .u64 1000000, .int .u64 10000000, .int .u64 100000000, .int .u64 1000000000, .int .u64 10000000000, .int .u64 100000000000, .int .u64 1000000000000, .int .u64 10000000000000, .int .u64 100000000000000, .int .u64 1000000000000000, .int .u64 10000000000000000, .int .u64 100000000000000000, .int .u64 1000000000000000000, .int .u64 10000000000000000000])).modify 1 (fun o => lay o #[.int .u8 0, .int .u8 1, .int .u8 28, .int .u8 2, .int .u8 29, .int .u8 14, .int .u8 24, .int .u8 3, .int .u8 30, .int .u8 22, .int .u8 20, .int .u8 15, .int .u8 25, .int .u8 17, .int .u8 4, .int .u8 8, .int .u8 31, .int .u8 27, .int .u8 13, .int .u8 23, .int .u8 21, .int .u8 19, .int .u8 16, .int .u8 7, .int .u8 26, .int .u8 12, .int .u8 18, .int .u8 6, .int .u8 11, .int .u8 5, .int .u8 10, .int .u8 9])).modify 2 (fun o => lay o #[.int .u8 0, .int .u8 1, .int .u8 56, .int .u8 2, .int .u8 57, .int .u8 49, .int .u8 28, .int .u8 3, .int .u8 61, .int .u8 58, .int .u8 42, .int .u8 50, .int .u8 38, .int .u8 29, .int .u8 17, .int .u8 4, .int .u8 62, .int .u8 47, .int .u8 59, .int .u8 36, .int .u8 45, .int .u8 43, .int .u8 51, .int .u8 22, .int .u8 53, .int .u8 39, .int .u8 33, .int .u8 30, .int .u8 24, .int .u8 18, .int .u8 12, .int .u8 5, .int .u8 63, .int .u8 55, .int .u8 48, .int .u8 27, .int .u8 60, .int .u8 41, .int .u8 37, .int .u8 16, .int .u8 46, .int .u8 35, .int .u8 44, .int .u8 21, .int .u8 52, .int .u8 32, .int .u8 23, .int .u8 11, .int .u8 54, .int .u8 26, .int .u8 40, .int .u8 15, .int .u8 34, .int .u8 20, .int .u8 31, .int .u8 10, .int .u8 25, .int .u8 14, .int .u8 19, .int .u8 9, .int .u8 13, .int .u8 8, .int .u8 7, .int .u8 6]) }
end Go.Proofs.YtiflkdemlhpibaaDoor
