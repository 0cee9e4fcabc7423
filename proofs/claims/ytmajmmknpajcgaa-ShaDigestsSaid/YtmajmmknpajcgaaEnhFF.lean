/- A run that asks nothing of memory goes on in every memory, calls told ahead besides. -/
import Derived.Test.YtmajmmknpajcgaaEnhEE
namespace Go.Eng
open Go
theorem once_soundE {P : Program} {gl : Bool} (hm : P.follows .mixedOrders = true) {E0 : Ext} (hE0 : ExtSound P false E0) (hM0 : ExtMono E0) {f : FuncId} {fn : Func} (hf : P.funcs[f]? = some fn) (hn : (fn.name == "runtime.NumGoroutine") = false) (hb : fn.body.isSome = true) {b : Bool} {n : Nat} {H' : Heap} (h : acall P false E0 n f [] Heap.empty = some (.bool b, H')) : ExtSound P gl (once f (.bool b)) := by
  intro g k hk args H v H2 hr m w args' ha hrel hl hG
  unfold once at hk
  split at hk
  case isFalse => cases hk
  rename_i he
  subst he
  injection hk with hk; subst hk
  cases args with
  | cons a l => cases hr
  | nil =>
    simp only [Option.some.injEq, Prod.mk.injEq] at hr
    obtain ⟨rfl, rfl⟩ := hr
    obtain rfl := ha.cases_nil
    have hrel0 : HRel (fun _ => none) Heap.empty w := ⟨fun b k h => by simp [Heap.empty] at h, fun b k p h => by simp [Heap.empty] at h, fun b b' k k' p p' _ h => by simp [Heap.empty] at h, fun b k h => by simp [Heap.empty] at h, fun b k p h => by simp [Heap.empty] at h⟩
    have hc := acall_calls (gl := false) hm hE0 hM0 hf hn hb h (m := fun _ => none) (w := w) LRel.nil hrel0 (fun b p hp => by cases hp) (fun hgl => by cases hgl)
    refine hc.mono fun e w' ⟨m', v', he, hv, hs⟩ => ⟨m, v', he, ?_, ?_⟩
    · obtain rfl := hv.bool_inv; exact .flat rfl
    · have hfr : ∀ c, c < w.heap.size → w'.heap[c]? = w.heap[c]? := fun c hc => hs.frame c hc fun b k p h => by simp [Heap.empty] at h
      refine ⟨fun _ _ => rfl, Nat.le_refl _, ⟨hrel.low, fun b k p hb hp => ?_, hrel.inj, hrel.one, hrel.froz⟩, hs.size, fun c hc _ => hfr c hc, fun b blk p q1 q2 q3 _ => ⟨b, blk, p, q1, q2, q3, rfl⟩, hs.os, hs.tape, hs.output, fun _ _ _ q _ => q, fun _ _ _ q _ => q, id, fun b k h1 h2 => by have := hrel.low b k h2; omega⟩
      exact (hrel.blk b k p hb hp).at (hfr _ (hrel.blk b k p hb hp).lt)
end Go.Eng
