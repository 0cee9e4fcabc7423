/- Hex: thirty-two bytes' digits. -/
import Derived.KernelRfl
import Derived.Shelf.Strings.Builder1
import Derived.Deep.WholeRow
import Derived.Test.YtmajmmknpajcgaaSA
set_option linter.unusedVariables false
set_option linter.unusedSimpArgs false
set_option maxRecDepth 100000
namespace Go.Proofs
open Go.RowKit Go.Shelf
def Try.sLaysW_ren : Go.Shelf.Ren := ⟨fun | 167 => 45 | 240 => 57 | 276 => 59 | n => n, fun | 0 => 0 | 3 => 3 | 4 => 4 | 5 => 5 | 9 => 9 | 20 => 20 | 37 => 29 | 70 => 69 | 72 => 71 | 75 => 73 | 80 => 75 | 164 => 83 | 127 => 82 | n => n, fun n => n⟩
theorem Try.sLaysW : Lays.n167 Try.prog Try.sLaysW_ren where
  mixed := by kernel_rfl
  f167 := Try.func45.trans (congrArg some (by kernel_rfl))
  f240 := Try.func57.trans (congrArg some (by kernel_rfl))
  f276 := Try.func59.trans (congrArg some (by kernel_rfl))
  t0 := Try.underlying0
  a0 := Try.isAgg0
  z0 := Try.sizeOf0
  v0 := Try.zeroValue0
  t4 := Try.underlying4
  a4 := Try.isAgg4
  z4 := Try.sizeOf4
  v4 := Try.zeroValue4
  t5 := Try.underlying5
  a5 := Try.isAgg5
  z5 := Try.sizeOf5
  v5 := Try.zeroValue5
  t9 := Try.underlying9
  a9 := Try.isAgg9
  z9 := Try.sizeOf9
  v9 := Try.zeroValue9
  t20 := Try.underlying20
  a20 := Try.isAgg20
  z20 := Try.sizeOf20
  v20 := Try.zeroValue20
  t37 := Try.underlying29
  a37 := Try.isAgg29
  z37 := Try.sizeOf29
  v37 := Try.zeroValue29
  t70 := Try.underlying69
  a70 := Try.isAgg69
  z70 := Try.sizeOf69
  v70 := Try.zeroValue69
  t72 := Try.underlying71
  a72 := Try.isAgg71
  z72 := Try.sizeOf71
  v72 := Try.zeroValue71
  t75 := Try.underlying73
  a75 := Try.isAgg73
  z75 := Try.sizeOf73
  v75 := Try.zeroValue73
  t164 := Try.underlying83
  a164 := Try.isAgg83
  z164 := Try.sizeOf83
  v164 := Try.zeroValue83
theorem Try.sExtraW : Builder.Extra Try.prog Try.sLaysW_ren where
  sizeBuilder := by kernel_rfl
  liesBuilder := by kernel_rfl
  t5 := Try.underlying5
  a5 := Try.isAgg5
  z5 := Try.sizeOf5
  v5 := Try.zeroValue5
  infoByte := by kernel_rfl
  cellsByte := by kernel_rfl
  sizeByte := by kernel_rfl
  neB5 := by decide
def Try.sLaysS_ren : Go.Shelf.Ren := ⟨fun | 169 => 46 | n => n, fun | 0 => 0 | 3 => 3 | 4 => 4 | 5 => 5 | 9 => 9 | 20 => 20 | 37 => 29 | 70 => 69 | 72 => 71 | 75 => 73 | 80 => 75 | 164 => 83 | 127 => 82 | n => n, fun n => n⟩
theorem Try.sLaysS : Lays.n169 Try.prog Try.sLaysS_ren where
  mixed := by kernel_rfl
  f169 := Try.func46.trans (congrArg some (by kernel_rfl))
  t0 := Try.underlying0
  a0 := Try.isAgg0
  z0 := Try.sizeOf0
  v0 := Try.zeroValue0
  t3 := Try.underlying3
  a3 := Try.isAgg3
  z3 := Try.sizeOf3
  v3 := Try.zeroValue3
  t9 := Try.underlying9
  a9 := Try.isAgg9
  z9 := Try.sizeOf9
  v9 := Try.zeroValue9
  t37 := Try.underlying29
  a37 := Try.isAgg29
  z37 := Try.sizeOf29
  v37 := Try.zeroValue29
  t70 := Try.underlying69
  a70 := Try.isAgg69
  z70 := Try.sizeOf69
  v70 := Try.zeroValue69
  t72 := Try.underlying71
  a72 := Try.isAgg71
  z72 := Try.sizeOf71
  v72 := Try.zeroValue71
  t127 := Try.underlying82
  a127 := Try.isAgg82
  z127 := Try.sizeOf82
  v127 := Try.zeroValue82
theorem Try.sExtraS : Builder.Extra Try.prog Try.sLaysS_ren where
  sizeBuilder := by kernel_rfl
  liesBuilder := by kernel_rfl
  t5 := Try.underlying5
  a5 := Try.isAgg5
  z5 := Try.sizeOf5
  v5 := Try.zeroValue5
  infoByte := by kernel_rfl
  cellsByte := by kernel_rfl
  sizeByte := by kernel_rfl
  neB5 := by decide
theorem sWrite (B b : Nat) (bs : List Value) (c : Int) (w : World) (h : Lib.IsBuilder (Try.sLaysW_ren.t 72) 5 B b bs w) (hlen : bs.length + 1 ≤ 140737488355328) (hBw : B ≤ w.heap.size) :
    Calls Try.prog 45 #[.pointer (some ⟨b, 0, none⟩), .int .u8 c] w fun e w' => e = .returned .nilIface ∧ (Lib.BuilderAt (Try.sLaysW_ren.t 72) 5 B b (.pointer (some ⟨b, 0, none⟩)) (bs ++ [.int .u8 c]) w' ∧ Below B w w') :=
  Any.Builder_WriteByte Try.sLaysW Try.sExtraW B b bs c w h hlen hBw
theorem sString (B b : Nat) (l : List UInt8) (w : World) (h : Lib.IsBuilder (Try.sLaysS_ren.t 72) 5 B b (Lib.byteCells l) w) (h0 : l ≠ []) :
    Calls Try.prog 46 #[.pointer (some ⟨b, 0, none⟩)] w fun e w' => e = .returned (.string ⟨l.toArray⟩) ∧ Below B w w' :=
  Any.Builder_String Try.sLaysS Try.sExtraS B b l w h h0

def hexT : List UInt8 := [48, 49, 50, 51, 52, 53, 54, 55, 56, 57, 97, 98, 99, 100, 101, 102]
def hexD (n : Nat) : UInt8 := hexT.getD n 0
/-- A digest's digits. -/
def hexL (ds : List UInt8) : List UInt8 := ds.flatMap fun x => [hexD (x.toNat / 16), hexD (x.toNat % 16)]
theorem hexL_snoc (ds : List UInt8) (x : UInt8) : hexL (ds ++ [x]) = hexL ds ++ [hexD (x.toNat / 16)] ++ [hexD (x.toNat % 16)] := by simp [hexL]
theorem hexL_len : ∀ ds : List UInt8, (hexL ds).length = 2 * ds.length
  | [] => rfl
  | x :: l => by simp only [hexL, List.flatMap_cons, List.length_append, List.length_cons, List.length_nil] at *; have := hexL_len l; simp only [hexL] at this; omega
theorem hexAt (k : Nat) (h : k < 16) {h' : k < (⟨#[48, 49, 50, 51, 52, 53, 54, 55, 56, 57, 97, 98, 99, 100, 101, 102]⟩ : ByteArray).size} : (⟨#[48, 49, 50, 51, 52, 53, 54, 55, 56, 57, 97, 98, 99, 100, 101, 102]⟩ : ByteArray)[k] = hexD k := by
  have : ∀ k : Fin 16, (⟨#[48, 49, 50, 51, 52, 53, 54, 55, 56, 57, 97, 98, 99, 100, 101, 102]⟩ : ByteArray)[k.1]'k.2 = hexD k.1 := by decide
  exact this ⟨k, h⟩
def U8 (ds : List UInt8) : Value := .agg (ds.map fun x => Value.int .u8 (x.toNat : Int)).toArray

set_option maxHeartbeats 4000000 in
theorem sHex_calls (ds : List UInt8) (hl : ds.length = 32) (w : World) :
    Calls Try.prog 27 #[U8 ds] w fun e w' => e = .returned (.string ⟨(hexL ds).toArray⟩) ∧ Below w.heap.size w w' := by
  obtain ⟨c, hc⟩ : ∃ c : Array Value, (ds.map fun x => Value.int .u8 (x.toNat : Int)).toArray = c := ⟨_, rfl⟩
  have hcs : c.size = 32 := by rw [← hc]; simp [hl]
  obtain ⟨W1, hW1⟩ : ∃ W1, (w.alloc (.cells c 35)).alloc (.cells #[.pointer none, .slice none 0 0] 71) = W1 := ⟨_, rfl⟩
  have h0 : W1.heap[w.heap.size]? = some (.cells c 35 (0, 0)) := by
    rw [← hW1]; exact (Below.heap_alloc _ _ _ (by simp)).trans (heap_alloc_last w _)
  have hi35 : (Try.prog.info? 35).map (·.size) = some c.size := by rw [hcs]; kernel_rfl
  have hB1 : Below w.heap.size w W1 := by rw [← hW1]; exact ((Below.refl _ w).alloc (Nat.le_refl _) _).alloc (by simp) _
  have hb1 : Lib.BuilderAt 71 5 w.heap.size (w.heap.size + 1) (.pointer none) [] W1 := by
    refine ⟨by omega, .slice none 0 0, ?_, World.ownsRow_nil _ _ _ _, by simp [Value.ownBlock]⟩
    rw [← hW1]
    have := heap_alloc_last (w.alloc (.cells c 35)) (.cells #[.pointer none, .slice none 0 0] 71)
    rwa [World.size_alloc] at this
  have hU : U8 ds = .agg c := by rw [← hc]; rfl
  have hget : ∀ (i : Nat) (x : UInt8), ds[i]? = some x → c[i]? = some (Value.int .u8 (x.toNat : Int)) := fun i x hx => by rw [← hc]; simp [hx]
  rw [hU]
  clear hU hc
  go_enter Try.func27, Try.ntmps27
  go_wp2_with (refine wpList_load_row rfl 35 (Operand.tmp 1) rfl w.heap.size rfl 35 c (0, 0) _ h0 Try.underlying35 rfl hi35 ?_)
  go_loopw [7] (fun ix wr => ∃ i : Nat, ix = .int .i64 (i : Int) ∧ i ≤ 32 ∧ Lib.IsBuilder 71 5 w.heap.size (w.heap.size + 1) (Lib.byteCells (hexL (ds.take i))) wr ∧ Below w.heap.size w wr)
    (fun ix _ => 32 - (intOf ix).toNat)
  case atStart => exact ⟨0, rfl, by omega, .inl hb1, hB1⟩
  case round =>
    obtain ⟨i, rfl, hi, hb, hB⟩ := hrel
    by_cases h32 : i < 32
    · obtain ⟨x, hx⟩ : ∃ x, ds[i]? = some x := ⟨_, List.getElem?_eq_getElem (by omega)⟩
      have hci := hget i x hx
      have hx1 : (x.toNat : Int) < 256 := by have := x.toNat_lt; omega
      have hidx : ∀ w', (Instr.index 35 (.agg c) (.int .i64 (i : Int))).run Try.prog w' = .ok (.int .u8 (x.toNat : Int)) w' := fun w' => by
        have hi' : (i : Int) < 32 := by omega
        simp [Instr.index, asIntOf, run_underlying Try.underlying35, part, Try.isAgg5, Try.sizeOf5, hi']
        rw [if_pos h32, hci]
        rfl
      have hk16 : x.toNat / 16 < 16 := by have := x.toNat_lt; omega
      have hm16 : x.toNat % 16 < 16 := Nat.mod_lt _ (by omega)
      go_wp2_with (go_at_call 45; first
        | (rw [hexAt _ hk16]; refine (sWrite _ _ _ _ _ hb (by simp [hexL_len, Lib.byteCells_length]; omega) hB.size).mono ?_; rintro e w1 ⟨rfl, hb1', hB1'⟩)
        | (rw [hexAt _ hm16]; refine (sWrite _ _ _ _ _ (.inr hb1') (by simp [hexL_len, Lib.byteCells_length]; omega) (Nat.le_trans hB.size hB1'.size)).mono ?_; rintro e w2 ⟨rfl, hb2', hB2'⟩))
      have ht : hexL (ds.take (i + 1)) = hexL (ds.take i) ++ [hexD (x.toNat / 16)] ++ [hexD (x.toNat % 16)] := by rw [List.take_add_one, hx]; exact hexL_snoc _ _
      refine ⟨⟨i + 1, rfl, by omega, .inr ?_, (hB.trans hB1').trans hB2'⟩, by simp [intOf]; omega⟩
      rw [ht]
      have e1 : ∀ (l : List UInt8) (b : UInt8), Lib.byteCells (l ++ [b]) = Lib.byteCells l ++ [.int .u8 (b.toNat : Int)] := fun l b => by simp [Lib.byteCells]
      rw [e1, e1]
      exact hb2'
    · obtain rfl : i = 32 := by omega
      have hall : ds.take 32 = ds := by rw [← hl, List.take_length]
      rw [hall] at hb
      go_wp2_with (go_at_call 46; refine (sString _ _ _ _ hb (by have := hexL_len ds; intro e; rw [e] at this; simp at this; omega)).mono ?_; rintro e w' ⟨rfl, hB'⟩)
      go_ret
      exact ⟨rfl, hB.trans hB'⟩
end Go.Proofs
