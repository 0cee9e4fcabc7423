/- strings.Repeat. -/
import Derived.Test.YtdpdagmcdakjjaaDoorWA
import Derived.Shelf.Strings.Repeat
import Derived.Shelf.Lay
import Derived.Ground.NamesProg
import Derived.Lib.Agree
import Derived.KernelRfl
namespace Go.Proofs
open Go.Shelf Go.RowKit
shelf_lay Lays.n105 Nm 105 at Tryd as Tryd.deepLaysRepeat
theorem Tryd.deepExtra : Builder.Extra Tryd.prog Tryd.deepLaysRepeat_ren where
  sizeBuilder := by kernel_rfl
  liesBuilder := by kernel_rfl
  t5 := Tryd.deepLaysRepeat.t5
  a5 := Tryd.deepLaysRepeat.a5
  z5 := Tryd.deepLaysRepeat.z5
  v5 := Tryd.deepLaysRepeat.v5
  infoByte := by kernel_rfl
  cellsByte := by kernel_rfl
  sizeByte := by kernel_rfl
  neB5 := by decide
end Go.Proofs
