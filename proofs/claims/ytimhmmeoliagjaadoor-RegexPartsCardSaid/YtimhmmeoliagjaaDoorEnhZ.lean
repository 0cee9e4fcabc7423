/- Texts as lists of bytes. -/
import Derived.Test.YtimhmmeoliagjaaDoorEnhU
import Derived.Laws.Strings
import Derived.WideShapes
set_option linter.unusedVariables false
set_option linter.unusedSimpArgs false
namespace Go.Eng
open Go

def bs (l : List UInt8) : ByteArray := ⟨l.toArray⟩
theorem bs_of (s : ByteArray) : s = bs s.data.toList := by cases s; rfl
theorem bs_size (l : List UInt8) : (bs l).size = l.length := by show l.toArray.size = _; simp
theorem bs_list (l : List UInt8) : (bs l).data.toList = l := by simp [bs]
theorem bs_inj {a b : List UInt8} : bs a = bs b ↔ a = b := ⟨fun h => by have := congrArg (fun s : ByteArray => s.data.toList) h; simpa [bs] using this, fun h => by rw [h]⟩
theorem bs_seq (l : List UInt8) : (bs l).toList = l := by rw [ByteArray.toList_eq, bs_list]
theorem bs_append (a b : List UInt8) : bs a ++ bs b = bs (a ++ b) := by
  apply WideShapes.bytes_inj
  rw [bs_list]
  simp [bs]
theorem bs_extract (l : List UInt8) (i j : Nat) : (bs l).extract i j = bs ((l.take j).drop i) := by
  apply WideShapes.bytes_inj
  rw [bs_list]
  simp [bs, List.extract_eq_take_drop]
  rw [List.drop_take]
theorem bs_empty : ByteArray.empty = bs [] := rfl
theorem bs_len {l : List UInt8} : lenStr (.string (bs l)) = some (.int .i64 (l.length : Int)) := by simp only [lenStr, bs_size]
theorem bs_idx {l : List UInt8} {k : IntKind} {i : Nat} {c : UInt8} (h : l[i]? = some c) : idxS (.string (bs l)) (.int k (i : Int)) = some (.int .u8 (c.toNat : Int)) := by
  simp only [idxS]
  rw [if_pos (by omega), Int.toNat_natCast, bs_list, h]
  rfl
theorem bs_from {l : List UInt8} {k : IntKind} {i : Nat} (h : i ≤ l.length) : slcStr (.string (bs l)) (some (.int k (i : Int))) none = some (.string (bs (l.drop i))) := by
  simp only [slcStr, bound]
  rw [if_pos (by omega)]
  simp only [Int.toNat_natCast, bs_size]
  rw [if_pos ⟨h, Nat.le_refl _⟩, bs_extract, List.take_length]
theorem bs_upto {l : List UInt8} {k : IntKind} {j : Nat} (h : j ≤ l.length) : slcStr (.string (bs l)) none (some (.int k (j : Int))) = some (.string (bs (l.take j))) := by
  simp only [slcStr, bound]
  rw [if_pos (by omega)]
  simp only [Int.toNat_natCast, bs_size]
  rw [if_pos ⟨Nat.zero_le _, h⟩, bs_extract, List.drop_zero]
theorem bs_part {l : List UInt8} {k k' : IntKind} {i j : Nat} (h : i ≤ j) (h' : j ≤ l.length) : slcStr (.string (bs l)) (some (.int k (i : Int))) (some (.int k' (j : Int))) = some (.string (bs ((l.take j).drop i))) := by
  simp only [slcStr, bound]
  rw [if_pos (by omega), if_pos (by omega)]
  simp only [Int.toNat_natCast, bs_size]
  rw [if_pos ⟨h, h'⟩, bs_extract]
theorem bs_eql {P : Program} {t : TypeId} {a b : List UInt8} : binB P .eql t (.string (bs a)) (.string (bs b)) = some (.bool (decide (a = b))) := by
  rw [b_seql, bs_seq, bs_seq]
  congr 2
  rw [Bool.eq_iff_iff]; simp
theorem bs_neq {P : Program} {t : TypeId} {a b : List UInt8} : binB P .neq t (.string (bs a)) (.string (bs b)) = some (.bool (!decide (a = b))) := by
  rw [b_sneq, bs_seq, bs_seq]
  congr 3
  rw [Bool.eq_iff_iff]; simp
end Go.Eng
