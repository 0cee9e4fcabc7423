import Derived.Test.YtimhmmeoliagjaaDoorEnhU
import Derived.Laws.Strings
import Derived.WideShapes
set_option linter.unusedVariables false
set_option linter.unusedSimpArgs false
namespace Go.Eng
open Go

def bs (l : List UInt8) : ByteArray := ⟨l.toArray⟩
theorem bs_of (s : ByteArray) : s = bs s.data.toList := by cases s; rfl
theorem bs_size (l : List UInt8) : (bs l).size = l.length := by show l.toArray.size = _; simp
theorem bs_list (l : List UInt8) : (bs l).data.toList = l := by simp [bs]
theorem bs_append (a b : List UInt8) : bs a ++ bs b = bs (a ++ b) := by
  apply WideShapes.bytes_inj
  rw [bs_list]
  simp [bs]
theorem bs_idx {l : List UInt8} {k : IntKind} {i : Nat} {c : UInt8} (h : l[i]? = some c) : idxS (.string (bs l)) (.int k (i : Int)) = some (.int .u8 (c.toNat : Int)) := by
  simp only [idxS]
  rw [if_pos (by omega), Int.toNat_natCast, bs_list, h]
  rfl
end Go.Eng
