/- A law: a run of the small machine over a picture of the memory that there is. -/
import Derived.Test.YtimhmmeoliagjaaDoorEnhJ
import Derived.Below
set_option linter.unusedVariables false
namespace Go.Eng
open Go Go.RowKit

def m0 (w : World) : Mp := fun b => if b < w.heap.size then some ⟨b, 0, 0⟩ else none
def okCell (w : World) (v : Value) : Prop := oneC v = true ∧ VRel (m0 w) v v
def okCells (w : World) (cs : Array Value) : Prop := ∀ v ∈ cs.toList, okCell w v
open Classical in
noncomputable def img (w : World) : Heap := ⟨w.heap.size, fun b => match w.heap[b]? with
  | some (.cells cs _ _) => if okCells w cs then some ⟨cs.toList, 0, false⟩ else none
  | _ => none⟩
theorem img_get {w : World} {b : Nat} {cs : Array Value} {e : TypeId} {fr : Nat × Nat} (h : w.heap[b]? = some (.cells cs e fr)) (hc : okCells w cs) : (img w).get b = some ⟨cs.toList, 0, false⟩ := by
  simp only [img, h, if_pos hc]
theorem img_inv {w : World} {b : Nat} {blk : Blk} (h : (img w).get b = some blk) : ∃ cs e fr, w.heap[b]? = some (.cells cs e fr) ∧ okCells w cs ∧ blk = ⟨cs.toList, 0, false⟩ := by
  simp only [img] at h
  split at h
  · rename_i cs e fr hb
    split at h
    · rename_i hc
      injection h with h
      exact ⟨cs, e, fr, hb, hc, h.symm⟩
    · cases h
  · cases h
theorem img_low (w : World) : MLow (m0 w) (img w).n := fun b p hp => by
  unfold m0 at hp
  split at hp
  · assumption
  · cases hp
theorem img_rel (w : World) : HRel (m0 w) (img w) w := by
  refine ⟨?_, ?_, ?_, ?_, ?_⟩
  · intro b blk h
    obtain ⟨cs, e, fr, hb, _⟩ := img_inv h
    exact (Array.getElem?_eq_some_iff.1 hb).1
  · intro b blk p h hp
    obtain ⟨cs, e, fr, hb, hc, rfl⟩ := img_inv h
    unfold m0 at hp
    split at hp
    · injection hp with hp; subst hp
      exact .inl ⟨rfl, cs, e, fr, hb, by simp, fun i v hv => ⟨v, by simpa using hv, (hc v (List.mem_of_getElem? hv)).2⟩, fun ho => by cases ho⟩
    · cases hp
  · intro b b' k k' p p' _ h1 ho
    obtain ⟨cs, e, fr, hb, hc, rfl⟩ := img_inv h1
    cases ho
  · intro b blk h
    obtain ⟨cs, e, fr, hb, hc, rfl⟩ := img_inv h
    rw [List.all_eq_true]
    exact fun v hv => (hc v hv).1
  · intro b blk p h ho hp
    unfold m0 at hp
    split at hp
    · injection hp with hp; subst hp; rfl
    · cases hp

theorem VRel.same_ptr {w : World} {b o : Nat} (h : b < w.heap.size) : VRel (m0 w) (.pointer (some ⟨b, o, none⟩)) (.pointer (some ⟨b, o, none⟩)) := by
  have := VRel.ptr (m := m0 w) (b := b) (o := o) (p := ⟨b, 0, 0⟩) (by simp [m0, h])
  simpa using this
theorem VRel.same_slc {w : World} {b o n c : Nat} (h : b < w.heap.size) (hn : n ≤ c) : VRel (m0 w) (.slice (some ⟨b, o, none⟩) n c) (.slice (some ⟨b, o, none⟩) n c) := by
  have := VRel.slc (m := m0 w) (b := b) (o := o) (p := ⟨b, 0, 0⟩) (len := n) (cap := c) (cap' := c) (by simp [m0, h]) (Nat.le_refl _) (by simp) hn
  simpa using this

theorem law_calls {P : Program} {gl : Bool} {E : Ext} (hm : P.follows .mixedOrders = true) (hE : ExtSound P gl E) (hEM : ExtMono E) {f : FuncId} {args : List Value} {w : World} {n : Nat} {H' : Heap} {b : Bool} {fn : Func} (hf : P.funcs[f]? = some fn) (hn : (fn.name == "runtime.NumGoroutine") = false) (hb : fn.body.isSome = true)
    (hg : gl = true → P.globals.size ≤ w.heap.size) (hrun : acall P gl E n f args (img w) = some (.bool b, H')) (hargs : LRel (m0 w) args args) :
    Calls P f args.toArray w fun e w' => e = .returned (.bool b) ∧ Below w.heap.size w w' := by
  have hG : GOK P gl (m0 w) := fun h g hlt => by
    unfold m0
    rw [if_pos (Nat.lt_of_lt_of_le hlt (hg h))]
  have hc := acall_calls hm hE hEM hf hn hb hrun hargs (img_rel w) (img_low w) hG
  refine hc.mono fun e w' ⟨m', v', he, hv, hs⟩ => ?_
  obtain rfl := hv.bool_inv
  refine ⟨he, ⟨hs.os, hs.tape, hs.output, hs.size, fun k hk => hs.frame k hk fun b blk p h ho hp => ?_⟩⟩
  obtain ⟨cs, e, fr, hb, hc, rfl⟩ := img_inv h
  cases ho

def once (f : FuncId) (v : Value) : Ext := fun g => if g = f then some (fun args H => match args with | [] => some (v, H) | _ => none) else none
theorem once_mono (f : FuncId) (v : Value) : ExtMono (once f v) := fun g k h f' args H v' H' hk => by
  unfold once at h
  split at h
  · injection h with h; subst h
    cases args with
    | nil => simp only [Option.some.injEq, Prod.mk.injEq] at hk; obtain ⟨_, rfl⟩ := hk; exact Mono.refl _
    | cons a l => cases hk
  · cases h
theorem once_sound {P : Program} {gl : Bool} (hm : P.follows .mixedOrders = true) {f : FuncId} {fn : Func} (hf : P.funcs[f]? = some fn) (hn : (fn.name == "runtime.NumGoroutine") = false) (hb : fn.body.isSome = true) {b : Bool} {n : Nat} {H' : Heap} (h : acall P false noExt n f [] Heap.empty = some (.bool b, H')) : ExtSound P gl (once f (.bool b)) := by
  intro g k hk args H v H2 hr m w args' ha hrel hl hG
  unfold once at hk
  split at hk
  case isFalse => cases hk
  rename_i he
  subst he
  injection hk with hk; subst hk
  cases args with
  | cons a l => cases hr
  | nil =>
    simp only [Option.some.injEq, Prod.mk.injEq] at hr
    obtain ⟨rfl, rfl⟩ := hr
    obtain rfl := ha.cases_nil
    have hrel0 : HRel (fun _ => none) Heap.empty w := ⟨fun b k h => by simp [Heap.empty] at h, fun b k p h => by simp [Heap.empty] at h, fun b b' k k' p p' _ h => by simp [Heap.empty] at h, fun b k h => by simp [Heap.empty] at h, fun b k p h => by simp [Heap.empty] at h⟩
    have hc := acall_calls (gl := false) hm (noExt_sound P false) noExt_mono hf hn hb h (m := fun _ => none) (w := w) LRel.nil hrel0 (fun b p hp => by cases hp) (fun hgl => by cases hgl)
    refine hc.mono fun e w' ⟨m', v', he, hv, hs⟩ => ⟨m, v', he, ?_, ?_⟩
    · obtain rfl := hv.bool_inv; exact .flat rfl
    · have hfr : ∀ c, c < w.heap.size → w'.heap[c]? = w.heap[c]? := fun c hc => hs.frame c hc fun b k p h => by simp [Heap.empty] at h
      refine ⟨fun _ _ => rfl, Nat.le_refl _, ⟨hrel.low, fun b k p hb hp => ?_, hrel.inj, hrel.one, hrel.froz⟩, hs.size, fun c hc _ => hfr c hc, fun b blk p q1 q2 q3 _ => ⟨b, blk, p, q1, q2, q3, rfl⟩, hs.os, hs.tape, hs.output, fun _ _ _ q _ => q, fun _ _ _ q _ => q, id, fun b k h1 h2 => by have := hrel.low b k h2; omega⟩
      exact (hrel.blk b k p hb hp).at (hfr _ (hrel.blk b k p hb hp).lt)

end Go.Eng
