/- The closed example runs. -/
import Derived.Test.YtjnpiaigiljpjaaKI
import Derived.Test.YtjnpiaigiljpjaaKRep
namespace Go.Eng
open Go Go.Proofs
theorem awake_map : (acall Try.prog false noExt 60 18 [] Heap.empty).map (·.1) = some (.bool true) := by kernel_rfl
theorem EE_sound : ExtSound Try.prog false EE := by
  refine orE_sound ?_ (repE_sound fun s c w hc hl => Any.strings_Repeat Try.deepLaysRepeat Try.deepExtra s c w hc hl)
  have h := awake_map
  cases hc : acall Try.prog false noExt 60 18 [] Heap.empty with
  | none => rw [hc] at h; cases h
  | some r =>
    obtain ⟨v, H'⟩ := r
    rw [hc] at h
    simp only [Option.map_some, Option.some.injEq] at h
    subst h
    exact once_sound (by kernel_rfl) hc
theorem EE_mono : ExtMono EE := orE_mono (once_mono _ _) (repE_mono _)

end Go.Eng
