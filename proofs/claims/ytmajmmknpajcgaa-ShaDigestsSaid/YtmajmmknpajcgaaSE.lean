/- What is told of calls ahead: Begin, Hex, the product of two words. -/
import Derived.Shelf.Bits.Mul64
import Derived.Shelf.Lay
import Derived.Ground.NamesProg
import Derived.KernelRfl
import Derived.Test.YtmajmmknpajcgaaSD
import Derived.Test.YtmajmmknpajcgaaSH
import Derived.Test.YtmajmmknpajcgaaEnhFF
set_option linter.unusedVariables false
set_option linter.unusedSimpArgs false
set_option maxRecDepth 100000
namespace Go.Proofs
open Go.RowKit Go.Shelf
shelf_lay Lays.n264 Nm 264 at Try as Try.sLaysM
end Go.Proofs
namespace Go.Eng
open Go Go.Proofs

def byteX : Value → Option UInt8
  | .int .u8 n => if 0 ≤ n ∧ n < 256 then some (UInt8.ofNat n.toNat) else none
  | _ => none
theorem byteX_all : ∀ {cs : List Value} {ds : List UInt8}, cs.mapM byteX = some ds → cs = ds.map fun x => Value.int .u8 (x.toNat : Int)
  | [], ds, h => by simp at h; subst h; rfl
  | c :: cs, ds, h => by
    simp only [List.mapM_cons, Option.bind_eq_bind, Option.bind_eq_some_iff] at h
    obtain ⟨x, hx, ys, hy, h⟩ := h
    simp only [Option.pure_def, Option.some.injEq] at h
    subst h
    rw [byteX_all hy, List.map_cons]
    congr 1
    unfold byteX at hx
    split at hx
    · split at hx
      · rename_i n hn
        injection hx with hx; subst hx
        congr 1
        have : (UInt8.ofNat n.toNat).toNat = n.toNat := by simp [UInt8.toNat_ofNat]; omega
        omega
      · cases hx
    · cases hx
theorem byteX_map (ds : List UInt8) : (ds.map fun x => Value.int .u8 (x.toNat : Int)).mapM byteX = some ds := by
  induction ds with
  | nil => rfl
  | cons x l ih =>
    rw [List.map_cons, List.mapM_cons, ih]
    have h1 : byteX (.int .u8 (x.toNat : Int)) = some x := by
      have := x.toNat_lt
      simp only [byteX]
      rw [if_pos (by omega)]
      simp
    rw [h1]; rfl
def begX (args : List Value) (H : Heap) : Option (Value × Heap) := match args with
  | [] => some (.agg (sRow 8), H)
  | _ => none
def hexX (args : List Value) (H : Heap) : Option (Value × Heap) := match args with
  | [.agg cs] => match cs.toList.mapM byteX with
    | some ds => if ds.length = 32 then some (.string ⟨(hexL ds).toArray⟩, H) else none
    | none => none
  | _ => none
def mulX (args : List Value) (H : Heap) : Option (Value × Heap) := match args with
  | [.int .u64 x, .int .u64 y] => if 0 ≤ x ∧ x < 18446744073709551616 ∧ 0 ≤ y ∧ y < 18446744073709551616 then
      some (.tuple #[.int .u64 (x * y / 18446744073709551616), .int .u64 (x * y % 18446744073709551616)], H) else none
  | _ => none
def E0 : Ext := fun g => if g = 23 then some begX else if g = 27 then some hexX else if g = 48 then some mulX else none
theorem E0_same {g : FuncId} {k : List Value → Heap → Option (Value × Heap)} (h : E0 g = some k) {args : List Value} {H H' : Heap} {v : Value} (hr : k args H = some (v, H')) : H' = H := by
  unfold E0 at h
  split at h
  · injection h with h; subst h
    unfold begX at hr
    split at hr
    · simp only [Option.some.injEq, Prod.mk.injEq] at hr; exact hr.2.symm
    · cases hr
  split at h
  · injection h with h; subst h
    unfold hexX at hr
    split at hr
    · split at hr
      · split at hr
        · simp only [Option.some.injEq, Prod.mk.injEq] at hr; exact hr.2.symm
        · cases hr
      · cases hr
    · cases hr
  split at h
  · injection h with h; subst h
    unfold mulX at hr
    split at hr
    · split at hr
      · simp only [Option.some.injEq, Prod.mk.injEq] at hr; exact hr.2.symm
      · cases hr
    · cases hr
  · cases h
theorem E0_mono : ExtMono E0 := fun g k h f args H v H' hr => by
  rw [E0_same h hr]; exact Mono.refl _
theorem sRow8_flat : flat (.agg (sRow 8)) = true := by kernel_rfl
theorem E0_sound : ExtSound Try.prog false E0 := by
  intro g k h args H v H' hr m w args' ha hrel hl hG
  have hsame := E0_same h hr
  subst hsame
  unfold E0 at h
  split at h
  · rename_i he; subst he
    injection h with h; subst h
    unfold begX at hr
    split at hr
    · simp only [Option.some.injEq, Prod.mk.injEq] at hr
      obtain ⟨rfl, _⟩ := hr
      obtain rfl := ha.cases_nil
      exact (sBegin_calls w).mono fun e w' ⟨he, hB⟩ => ⟨m, _, he, VRel.ofFlat sRow8_flat, step_below hrel hB⟩
    · cases hr
  split at h
  · rename_i he; subst he
    injection h with h; subst h
    unfold hexX at hr
    split at hr
    · rename_i cs
      split at hr
      · rename_i ds hds
        split at hr
        · rename_i hlen
          simp only [Option.some.injEq, Prod.mk.injEq] at hr
          obtain ⟨rfl, _⟩ := hr
          have hcs := byteX_all hds
          obtain ⟨x', r, rfl, h1, h2⟩ := ha.cases_cons
          obtain rfl := h2.cases_nil
          obtain ⟨cs', rfl, hl'⟩ := h1.agg_inv
          have hcs' := hl'.eq_flat (by rw [hcs]; simp [flat1])
          have hU : Value.agg cs' = U8 ds := by
            unfold U8
            rw [← hcs, ← hcs']
          rw [show ([Value.agg cs'].toArray) = #[Value.agg cs'] from rfl, hU]
          exact (sHex_calls ds hlen w).mono fun e w' ⟨he, hB⟩ => ⟨m, _, he, .flat rfl, step_below hrel hB⟩
        · cases hr
      · cases hr
    · cases hr
  split at h
  · rename_i he; subst he
    injection h with h; subst h
    unfold mulX at hr
    split at hr
    · rename_i x y
      split at hr
      · rename_i hc
        simp only [Option.some.injEq, Prod.mk.injEq] at hr
        obtain ⟨rfl, _⟩ := hr
        obtain ⟨a, rfl⟩ := Int.eq_ofNat_of_zero_le hc.1
        obtain ⟨b, rfl⟩ := Int.eq_ofNat_of_zero_le hc.2.2.1
        obtain ⟨x', r, rfl, h1, h2⟩ := ha.cases_cons
        obtain ⟨y', r, rfl, h3, h4⟩ := h2.cases_cons
        obtain rfl := h4.cases_nil
        obtain rfl := h1.int_inv
        obtain rfl := h3.int_inv
        refine (Any.bits_Mul64 Try.sLaysM a b (by omega) (by omega) w).mono fun e w' ⟨he, hB⟩ => ⟨m, _, ?_, VRel.tuple' (LRel.cons (.flat (by rfl)) (LRel.cons (.flat (by rfl)) LRel.nil)), by rw [hB]; exact Step.refl hrel⟩
        rw [he]
        simp
      · cases hr
    · cases hr
  · cases h
end Go.Eng
