import Derived.Test.YtimhmmeoliagjaaDoorEnhZ
import Derived.Test.YtimhmmeoliagjaaDoorEnhU
import Derived.Test.YtimhmmeoliagjaaDoorEnhS
import Derived.Lib.Repeat
import Derived.Below
namespace Go.Eng
open Go Go.RowKit

def orE (E F : Ext) : Ext := fun g => match E g with
  | some k => some k
  | none => F g
theorem orE_sound {P : Program} {gl : Bool} {E F : Ext} (hE : ExtSound P gl E) (hF : ExtSound P gl F) : ExtSound P gl (orE E F) := by
  intro f g h
  unfold orE at h
  cases hf : E f with
  | some k => rw [hf] at h; exact hE f g (by rw [hf]; exact h)
  | none => rw [hf] at h; exact hF f g h
theorem orE_mono {E F : Ext} (hE : ExtMono E) (hF : ExtMono F) : ExtMono (orE E F) := by
  intro f g h
  unfold orE at h
  cases hf : E f with
  | some k => rw [hf] at h; exact hE f g (by rw [hf]; exact h)
  | none => rw [hf] at h; exact hF f g h

theorem step_below {m : Mp} {H : Heap} {w w' : World} (hrel : HRel m H w) (hB : Below w.heap.size w w') : Step m H w m H w' := by
  have hfr : ∀ c, c < w.heap.size → w'.heap[c]? = w.heap[c]? := fun c hc => hB.block c hc
  refine ⟨fun _ _ => rfl, Nat.le_refl _, ⟨hrel.low, fun b k p hb hp => ?_, hrel.inj, hrel.one, hrel.froz⟩, hB.size, fun c hc _ => hfr c hc, fun b blk p q1 q2 q3 _ => ⟨b, blk, p, q1, q2, q3, rfl⟩, hB.os, hB.tape, hB.output, fun _ _ _ q _ => q, fun _ _ _ q _ => q, id, fun b k h1 h2 => by have := hrel.low b k h2; omega⟩
  exact (hrel.blk b k p hb hp).at (hfr _ (hrel.blk b k p hb hp).lt)
def repE (f : FuncId) : Ext := fun g => if g = f then some (fun args H => match args with
  | [.string s, .int .i64 c] => if 0 ≤ c ∧ c ≤ 9223372036854775807 ∧ s.size * c.toNat ≤ 140737488355328 then some (.string (bs (Lib.repeatL s.data.toList c.toNat)), H) else none
  | _ => none) else none
theorem repE_inv {args : List Value} {H H' : Heap} {v : Value} (h : (match args with
  | [.string s, .int .i64 c] => if 0 ≤ c ∧ c ≤ 9223372036854775807 ∧ s.size * c.toNat ≤ 140737488355328 then some (Value.string (bs (Lib.repeatL s.data.toList c.toNat)), H) else none
  | _ => none) = some (v, H')) : ∃ s c, args = [.string s, .int .i64 c] ∧ 0 ≤ c ∧ c ≤ 9223372036854775807 ∧ s.size * c.toNat ≤ 140737488355328 ∧ v = .string (bs (Lib.repeatL s.data.toList c.toNat)) ∧ H' = H := by
  split at h
  · split at h
    · rename_i hc
      simp only [Option.some.injEq, Prod.mk.injEq] at h
      exact ⟨_, _, rfl, hc.1, hc.2.1, hc.2.2, h.1.symm, h.2.symm⟩
    · cases h
  · cases h
theorem repE_mono (f : FuncId) : ExtMono (repE f) := fun g k h f' args H v H' hk => by
  unfold repE at h
  split at h
  · injection h with h; subst h
    obtain ⟨_, _, _, _, _, _, _, rfl⟩ := repE_inv hk
    exact Mono.refl _
  · cases h
theorem repE_sound {P : Program} {gl : Bool} {f : FuncId} (hc : ∀ (s : ByteArray) (c : Nat) (w : World), c ≤ 9223372036854775807 → s.size * c ≤ 140737488355328 →
    Calls P f #[.string s, .int .i64 c] w fun e w' => e = .returned (.string ⟨(Lib.repeatL s.data.toList c).toArray⟩) ∧ Below w.heap.size w w') : ExtSound P gl (repE f) := by
  intro g k hk args H v H2 hr m w args' ha hrel hl hG
  unfold repE at hk
  split at hk
  case isFalse => cases hk
  rename_i he
  subst he
  injection hk with hk; subst hk
  obtain ⟨s, c, rfl, h1, h2, h3, rfl, rfl⟩ := repE_inv hr
  obtain ⟨n, rfl⟩ := Int.eq_ofNat_of_zero_le h1
  obtain rfl := ha.eq_flat (by rfl)
  refine (hc s n w (by omega) h3).mono fun e w' ⟨he, hB⟩ => ⟨m, _, he, .flat rfl, step_below hrel hB⟩
def Ev4 {α : Type} (R : Nat → Nat → Nat → Nat → Option α) (r : α) : Prop := ∃ N, ∀ n m k j, N ≤ n → N ≤ m → N ≤ k → N ≤ j → R n m k j = some r
section
variable {α : Type} {r : α}
theorem Ev4.of {R : Nat → Nat → Nat → Option α} (h : Ev3 R r) : Ev4 (fun n m k _ => R n m k) r := by
  obtain ⟨N, h⟩ := h
  exact ⟨N, fun n m k j hn hm hk _ => h n m k hn hm hk⟩
theorem Ev4.step {R B : Nat → Nat → Nat → Nat → Option α} (hb : ∀ n m k j, R n m k (j + 1) = B n m k j) (h : Ev4 B r) : Ev4 R r := by
  obtain ⟨N, h⟩ := h
  refine ⟨N + 1, fun n m k j hn hm hk hj => ?_⟩
  obtain ⟨i, rfl⟩ : ∃ i, j = i + 1 := ⟨j - 1, by omega⟩
  rw [hb]
  exact h n m k i (by omega) (by omega) (by omega) (by omega)
theorem Ev4.bnd {A : Nat → Option (Value × Heap)} {f : Nat → Nat → Nat → Nat → Value → Heap → Option α} {v : Value} {H : Heap} (h : Ev (fun n _ => A n) (v, H)) (h' : Ev4 (fun n m k j => f n m k j v H) r) : Ev4 (fun n m k j => Eng.bnd (A n) (f n m k j)) r := by
  obtain ⟨N, h⟩ := h
  obtain ⟨M, h'⟩ := h'
  refine ⟨max N M, fun n m k j hn hm hk hj => ?_⟩
  have h0 : A n = some (v, H) := h n n (by omega) (by omega)
  simp only [h0, Eng.bnd]
  exact h' n m k j (by omega) (by omega) (by omega) (by omega)
end
end Go.Eng
