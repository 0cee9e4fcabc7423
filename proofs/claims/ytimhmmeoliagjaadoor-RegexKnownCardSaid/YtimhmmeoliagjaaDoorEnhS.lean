import Derived.Test.YtimhmmeoliagjaaDoorEnhJ
import Derived.Below
set_option linter.unusedVariables false
namespace Go.Eng
open Go Go.RowKit

def m0 (w : World) : Mp := fun b => if b < w.heap.size then some ⟨b, 0, 0⟩ else none
def once (f : FuncId) (v : Value) : Ext := fun g => if g = f then some (fun args H => match args with | [] => some (v, H) | _ => none) else none
end Go.Eng
