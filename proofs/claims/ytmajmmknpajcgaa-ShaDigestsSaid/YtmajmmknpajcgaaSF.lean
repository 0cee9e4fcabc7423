/- Words of 32 bits, numbers of 64; the program's roots. -/
import Derived.Test.YtmajmmknpajcgaaSE
import Derived.Test.YtmajmmknpajcgaaEnhDD
set_option linter.unusedVariables false
set_option linter.unusedSimpArgs false
set_option linter.unusedSectionVars false
set_option maxRecDepth 100000
namespace Go.Eng
open Go Go.Proofs

abbrev EE : Ext := E0
abbrev Cl (f : FuncId) (args : List Value) (H : Heap) (v : Value) (H' : Heap) : Prop := ClP Try.prog false EE f args H v H'
noncomputable abbrev AC (n : Nat) : CallF := acall Try.prog false EE n
theorem acall_ext {P : Program} {gl : Bool} {E : Ext} {f : FuncId} {fn : Func} {g : List Value → Heap → Option (Value × Heap)} (hf : P.funcs[f]? = some fn) (hn : (fn.name == "runtime.NumGoroutine") = false) (hb : fn.body.isSome = true) (h : E f = some g) (n : Nat) (args : List Value) (H : Heap) : acall P gl E (n + 1) f args H = g args H := by
  obtain ⟨c, hc⟩ := Option.isSome_iff_exists.1 hb
  unfold acall
  rw [hf]
  simp only [hn, hc, h]
theorem hex_cl {ds : List UInt8} (hl : ds.length = 32) {H : Heap} : Cl 27 [.agg (B (U ds)).toArray] H (.string (bs (hexL ds))) H := by
  refine ⟨1, fun n m hn _ => ?_⟩
  obtain ⟨n, rfl⟩ : ∃ k, n = k + 1 := ⟨n - 1, by omega⟩
  refine (acall_ext Try.func27 (by kernel_rfl) (by kernel_rfl) (g := hexX) rfl n _ H).trans ?_
  have e : B (U ds) = ds.map fun x => Value.int .u8 (x.toNat : Int) := by simp [B, U]
  simp only [hexX, List.toList_toArray, e, byteX_map, hl, if_true]
  rfl
theorem mul_cl {a b : Nat} (ha : a < 18446744073709551616) (hb : b < 18446744073709551616) {H : Heap} :
    Cl 48 [.int .u64 (a : Int), .int .u64 (b : Int)] H (.tuple #[.int .u64 ((a * b / 18446744073709551616 : Nat) : Int), .int .u64 ((a * b % 18446744073709551616 : Nat) : Int)]) H := by
  refine ⟨1, fun n m hn _ => ?_⟩
  obtain ⟨n, rfl⟩ : ∃ k, n = k + 1 := ⟨n - 1, by omega⟩
  refine (acall_ext Try.func48 (by kernel_rfl) (by kernel_rfl) (g := mulX) rfl n _ H).trans ?_
  simp only [mulX]
  rw [if_pos (by omega)]
  simp
theorem add64_cl {x y : Nat} {H : Heap} : Cl 49 [.int .u64 (x : Int), .int .u64 (y : Int), .int .u64 0] H (.tuple #[.int .u64 (((x + y) % 18446744073709551616 : Nat) : Int), .int .u64 (((x + y) / 18446744073709551616 : Nat) : Int)]) H := by
  have := ClP.add64 (P := Try.prog) (gl := false) (E := EE) (H := H) (x := x) (y := y) (c := 0) Try.func49 (by kernel_rfl) (by kernel_rfl) (by kernel_rfl) (by kernel_rfl) (by omega)
  simpa using this

/-! ### numbers of 64 bits -/
section
variable {P : Program} {t : TypeId} {a b : Nat} {H : Heap}
theorem wrap_u64 {n : Nat} (h : n < 18446744073709551616) : IntKind.u64.wrap (n : Int) = (n : Int) := by
  rw [IntKind.wrap_u64]; omega
theorem bv64 {n : Nat} (h : n < 18446744073709551616) : (BitVec.ofInt 64 (n : Int)).toNat = n := by
  simp [BitVec.toNat_ofInt, Nat.mod_eq_of_lt h]
theorem u64_or (ha : a < 18446744073709551616) (hb : b < 18446744073709551616) : binB P .or t (.int .u64 (a : Int)) (.int .u64 (b : Int)) = some (.int .u64 ((a ||| b : Nat) : Int)) := by
  rw [b_or]
  have h1 : (BitVec.ofInt IntKind.u64.bits (a : Int) ||| BitVec.ofInt IntKind.u64.bits (b : Int)).toNat = a ||| b := by
    rw [BitVec.toNat_or]
    show (BitVec.ofInt 64 (a : Int)).toNat ||| (BitVec.ofInt 64 (b : Int)).toNat = _
    rw [bv64 ha, bv64 hb]
  rw [h1, wrap_u64 (Nat.or_lt_two_pow (n := 64) ha hb)]
theorem u64_shl {k : Nat} {kk : IntKind} (h : a * 2 ^ k < 18446744073709551616) (hk : k < 64) : binB P .shl t (.int .u64 (a : Int)) (.int kk (k : Int)) = some (.int .u64 ((a * 2 ^ k : Nat) : Int)) := by
  have e : (min (k : Int).toNat IntKind.u64.bits) = k := by simp only [Int.toNat_natCast]; exact Nat.min_eq_left (by show k ≤ 64; omega)
  simp only [binB, shiftB]
  rw [if_neg (by omega), e, show ((a : Int) * 2 ^ k) = ((a * 2 ^ k : Nat) : Int) by simp, wrap_u64 h]
theorem u64_shr {k : Nat} {kk : IntKind} (hk : k < 64) : binB P .shr t (.int .u64 (a : Int)) (.int kk (k : Int)) = some (.int .u64 ((a / 2 ^ k : Nat) : Int)) := by
  have e : (min (k : Int).toNat IntKind.u64.bits) = k := by simp only [Int.toNat_natCast]; exact Nat.min_eq_left (by show k ≤ 64; omega)
  rw [b_shr (by omega), e]
  congr 2
  rw [Int.fdiv_eq_ediv_of_nonneg _ (by exact Int.pow_nonneg (by omega))]
  norm_cast
theorem cv_u64 {k : IntKind} (h : a < 18446744073709551616) : cvI .u64 (.int k (a : Int)) H = some (.int .u64 (a : Int), H) := by
  simp only [cvI]; rw [wrap_u64 h]
theorem n_lt : ((a : Int) < (b : Int)) = (a < b) := by simp
theorem n_eq : ((a : Int) == (b : Int)) = decide (a = b) := k_eq'
end
/-! ### words -/
/-- A word, as a value. -/
def iv (x : UInt32) : Value := .int .u32 (x.toNat : Int)
def WC (l : List UInt32) : List Value := l.map iv
section
variable {P : Program} {t : TypeId} {x y : UInt32} {H : Heap}
theorem bv32 (x : UInt32) : BitVec.ofInt IntKind.u32.bits (x.toNat : Int) = x.toBitVec := by
  apply BitVec.eq_of_toNat_eq
  show (BitVec.ofInt 32 (x.toNat : Int)).toNat = x.toNat
  have := x.toNat_lt
  simp [BitVec.toNat_ofInt]
theorem wrap_u32 {n : Nat} (h : n < 4294967296) : IntKind.u32.wrap (n : Int) = (n : Int) := by
  rw [IntKind.wrap_u32]; omega
theorem wrap_iv (x : UInt32) : Value.int .u32 (IntKind.u32.wrap (x.toNat : Int)) = iv x := by
  rw [wrap_u32 x.toNat_lt]; rfl
theorem w_add : binB P .add t (iv x) (iv y) = some (iv (x + y)) := by
  unfold iv
  rw [b_add]
  congr 2
theorem w_xor : binB P .xor t (iv x) (iv y) = some (iv (x ^^^ y)) := by
  unfold iv
  simp only [binB, intB, if_true]
  rw [bv32, bv32]
  exact congrArg some (wrap_iv (x ^^^ y))
theorem w_and : binB P .and t (iv x) (iv y) = some (iv (x &&& y)) := by
  unfold iv
  simp only [binB, intB, if_true]
  rw [bv32, bv32]
  exact congrArg some (wrap_iv (x &&& y))
theorem w_or : binB P .or t (iv x) (iv y) = some (iv (x ||| y)) := by
  unfold iv
  simp only [binB, intB, if_true]
  rw [bv32, bv32]
  exact congrArg some (wrap_iv (x ||| y))
theorem w_not : unB .xor (iv x) = some (iv (~~~x)) := by
  unfold iv
  simp only [unB]
  have e : (BitVec.ofInt 32 4294967295 : BitVec 32) = BitVec.allOnes 32 := by decide
  have h : ((BitVec.ofInt 32 4294967295 : BitVec 32) ^^^ (x.toBitVec : BitVec 32)) = (~~~x).toBitVec := by
    rw [e, BitVec.allOnes_xor]; rfl
  have h2 : (BitVec.ofInt IntKind.u32.bits (if IntKind.u32.signed = true then -1 else IntKind.u32.max) ^^^ BitVec.ofInt IntKind.u32.bits (x.toNat : Int)).toNat = (~~~x).toNat := by
    rw [bv32]
    exact congrArg BitVec.toNat h
  rw [h2, wrap_iv]
  rfl
end
end Go.Eng
