/- The closed example runs. -/
import Derived.Test.YtmjeefecjgfdjaaDoorTB
import Derived.KernelRfl
namespace Go.Eng
open Go Go.Proofs
theorem awake_map : (acall Tryd.prog false noExt 90 17 [] Heap.empty).map (·.1) = some (.bool true) := by kernel_rfl
theorem EE_sound : ExtSound Tryd.prog false EE := by
  have h := awake_map
  cases hc : acall Tryd.prog false noExt 90 17 [] Heap.empty with
  | none => rw [hc] at h; cases h
  | some r =>
    obtain ⟨v, H'⟩ := r
    rw [hc] at h
    simp only [Option.map_some, Option.some.injEq] at h
    subst h
    exact once_sound (by kernel_rfl) hc
end Go.Eng
