/- strings.Repeat. -/
import Derived.Test.YtjnpiaigiljpjaaKC
import Derived.Shelf.Strings.Repeat
import Derived.Shelf.Lay
import Derived.Ground.NamesProg
import Derived.Lib.Agree
import Derived.KernelRfl
namespace Go.Proofs
open Go.Shelf Go.RowKit
shelf_lay Lays.n105 Nm 105 at Try as Try.deepLaysRepeat
theorem Try.deepExtra : Builder.Extra Try.prog Try.deepLaysRepeat_ren where
  sizeBuilder := by kernel_rfl
  liesBuilder := by kernel_rfl
  t5 := Try.deepLaysRepeat.t5
  a5 := Try.deepLaysRepeat.a5
  z5 := Try.deepLaysRepeat.z5
  v5 := Try.deepLaysRepeat.v5
  infoByte := by kernel_rfl
  cellsByte := by kernel_rfl
  sizeByte := by kernel_rfl
  neB5 := by decide
end Go.Proofs
