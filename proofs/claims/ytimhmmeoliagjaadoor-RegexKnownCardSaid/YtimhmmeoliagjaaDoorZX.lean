import Derived.Test.YtimhmmeoliagjaaDoorQA
import Derived.Test.YtimhmmeoliagjaaDoorEnhAA
import Derived.Test.YtimhmmeoliagjaaDoorEnhBB
import Derived.Shelf.Strings.Repeat
import Derived.Shelf.Lay
import Derived.Ground.NamesProg
import Derived.Lib.Agree
import Derived.KernelRfl
namespace Go.Proofs
open Go.Shelf Go.RowKit
shelf_lay Lays.n105 Nm 105 at Tryd as Tryd.deepLaysRepeat
theorem Tryd.deepExtra : Builder.Extra Tryd.prog Tryd.deepLaysRepeat_ren where
  sizeBuilder := by kernel_rfl
  liesBuilder := by kernel_rfl
  t5 := Tryd.deepLaysRepeat.t5
  a5 := Tryd.deepLaysRepeat.a5
  z5 := Tryd.deepLaysRepeat.z5
  v5 := Tryd.deepLaysRepeat.v5
  infoByte := by kernel_rfl
  cellsByte := by kernel_rfl
  sizeByte := by kernel_rfl
  neB5 := by decide
end Go.Proofs
namespace Go.Eng
open Go Go.Proofs
theorem rep35_sound : ExtSound Tryd.prog true (repE 35) := repE_sound fun s c w hc hl => Any.strings_Repeat Tryd.deepLaysRepeat Tryd.deepExtra s c w hc hl
theorem rep35_mono : ExtMono (repE 35) := repE_mono _
theorem acall_extR {P : Program} {gl : Bool} {E : Ext} {f : FuncId} {fn : Func} {g : List Value → Heap → Option (Value × Heap)} (hf : P.funcs[f]? = some fn) (hn : (fn.name == "runtime.NumGoroutine") = false) (hb : fn.body.isSome = true) (h : E f = some g) (n : Nat) (args : List Value) (H : Heap) : acall P gl E (n + 1) f args H = g args H := by
  obtain ⟨c, hc⟩ := Option.isSome_iff_exists.1 hb
  unfold acall
  rw [hf]
  simp only [hn, hc, h]
theorem rep_cl {E : Ext} (hE : E 35 = repE 35 35) (l : List UInt8) {k : Nat} (hk : k ≤ 100000) (hl : l.length ≤ 1000) (H : Heap) : ClP Tryd.prog true E 35 [.string (bs l), .int .i64 (k : Int)] H (.string (bs (Lib.repeatL l k))) H := ⟨1, fun n m h1 _ => by
  obtain ⟨n, rfl⟩ : ∃ k, n = k + 1 := ⟨n - 1, by omega⟩
  refine (acall_extR Tryd.func35 (by kernel_rfl) (by kernel_rfl) (hE.trans (by unfold repE; rw [if_pos rfl])) n _ H).trans ?_
  have : l.length * k ≤ 1000 * 100000 := Nat.mul_le_mul hl hk
  have hc : (0 : Int) ≤ (k : Int) ∧ (k : Int) ≤ 9223372036854775807 ∧ (bs l).size * (k : Int).toNat ≤ 140737488355328 := ⟨by omega, by omega, by rw [bs_size, Int.toNat_natCast]; omega⟩
  show (if (0 : Int) ≤ (k : Int) ∧ (k : Int) ≤ 9223372036854775807 ∧ (bs l).size * (k : Int).toNat ≤ 140737488355328 then some (Value.string (bs (Lib.repeatL (bs l).data.toList (k : Int).toNat)), H) else none) = _
  rw [if_pos hc, bs_list, Int.toNat_natCast]⟩
end Go.Eng
