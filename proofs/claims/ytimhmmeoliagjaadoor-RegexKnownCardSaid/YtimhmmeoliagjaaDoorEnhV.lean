import Derived.Test.YtimhmmeoliagjaaDoorEnhS
set_option linter.unusedVariables false
namespace Go.Eng
open Go Go.RowKit

structure Win where
  blk : Nat
  off : Nat
  cells : Option (List Value)
def hw (W : List Win) : Heap := ⟨W.length, fun i => (W[i]?).bind fun x => x.cells.map fun l => ⟨l, 0, false⟩⟩
def mw (W : List Win) : Mp := fun i => (W[i]?).map fun x => ⟨x.blk, x.off, 0⟩
def WinOk (w : World) (W : List Win) : Prop := ∀ (i : Nat) (x : Win) l, W[i]? = some x → x.cells = some l → ∃ cs e fr, w.heap[x.blk]? = some (.cells cs e fr) ∧ x.off + l.length ≤ cs.size ∧ l.all oneC = true ∧
  ∀ (j : Nat) v, l[j]? = some v → ∃ v', cs[x.off + j]? = some v' ∧ VRel (mw W) v v'
theorem mw_more (W V : List Win) : MLe (mw W) (mw (W ++ V)) := fun b p h => by
  unfold mw at h ⊢
  cases hx : W[b]? with
  | none => rw [hx] at h; cases h
  | some x =>
    rw [List.getElem?_append_left (List.getElem?_eq_some_iff.1 hx).1, hx]
    rw [hx] at h; exact h
theorem WinOk.nil (w : World) : WinOk w [] := fun i x l h => by simp at h
theorem WinOk.snoc {w : World} {W : List Win} (h : WinOk w W) {x : Win}
    (h1 : ∀ l, x.cells = some l → ∃ cs e fr, w.heap[x.blk]? = some (.cells cs e fr) ∧ x.off + l.length ≤ cs.size ∧ l.all oneC = true ∧ ∀ (j : Nat) v, l[j]? = some v → ∃ v', cs[x.off + j]? = some v' ∧ VRel (mw W) v v') : WinOk w (W ++ [x]) := fun i y l hy hyl => by
  rcases Nat.lt_or_ge i W.length with hlt | hge
  · rw [List.getElem?_append_left hlt] at hy
    obtain ⟨cs, e, fr, g1, g2, g3, g4⟩ := h i y l hy hyl
    exact ⟨cs, e, fr, g1, g2, g3, fun j v hv => by obtain ⟨v', q1, q2⟩ := g4 j v hv; exact ⟨v', q1, q2.mono (mw_more _ _)⟩⟩
  · rw [List.getElem?_append_right hge] at hy
    have : i - W.length = 0 := by
      rcases Nat.eq_zero_or_pos (i - W.length) with h0 | h0
      · exact h0
      · rw [List.getElem?_eq_none (by simp; omega)] at hy; cases hy
    rw [this] at hy
    simp at hy
    subst hy
    obtain ⟨cs, e, fr, g1, g2, g3, g4⟩ := h1 l hyl
    exact ⟨cs, e, fr, g1, g2, g3, fun j v hv => by obtain ⟨v', q1, q2⟩ := g4 j v hv; exact ⟨v', q1, q2.mono (mw_more _ _)⟩⟩
theorem hw_low (W : List Win) : MLow (mw W) (hw W).n := fun b p h => by
  unfold mw at h
  cases hx : W[b]? with
  | none => rw [hx] at h; cases h
  | some x => exact (List.getElem?_eq_some_iff.1 hx).1
theorem hw_inv {W : List Win} {b : Nat} {blk : Blk} (h : (hw W).get b = some blk) : ∃ x l, W[b]? = some x ∧ x.cells = some l ∧ blk = ⟨l, 0, false⟩ := by
  simp only [hw] at h
  cases hx : W[b]? with
  | none => rw [hx] at h; cases h
  | some x =>
    rw [hx] at h
    simp only [Option.bind_some, Option.map_eq_some_iff] at h
    obtain ⟨l, h1, h2⟩ := h
    exact ⟨x, l, rfl, h1, h2.symm⟩
theorem hw_rel {w : World} {W : List Win} (h : WinOk w W) : HRel (mw W) (hw W) w := by
  refine ⟨?_, ?_, ?_, ?_, ?_⟩
  · intro b blk hb
    obtain ⟨x, l, hx, _⟩ := hw_inv hb
    exact (List.getElem?_eq_some_iff.1 hx).1
  · intro b blk p hb hp
    obtain ⟨x, l, hx, hl, rfl⟩ := hw_inv hb
    simp only [mw, hx, Option.map_some, Option.some.injEq] at hp
    subst hp
    obtain ⟨cs, e, fr, g1, g2, g3, g4⟩ := h b x l hx hl
    exact .inl ⟨rfl, cs, e, fr, g1, by simpa using g2, g4, fun ho => by cases ho⟩
  · intro b b' k k' p p' _ h1 ho
    obtain ⟨x, l, hx, _, rfl⟩ := hw_inv h1
    cases ho
  · intro b blk hb
    obtain ⟨x, l, hx, hl, rfl⟩ := hw_inv hb
    obtain ⟨cs, e, fr, g1, g2, g3, g4⟩ := h b x l hx hl
    exact g3
  · intro b blk p hb ho hp
    obtain ⟨x, l, hx, _, rfl⟩ := hw_inv hb
    simp only [mw, hx, Option.map_some, Option.some.injEq] at hp
    subst hp; rfl

theorem win_calls {P : Program} {gl : Bool} {E : Ext} (hm : P.follows .mixedOrders = true) (hE : ExtSound P gl E) (hEM : ExtMono E) {f : FuncId} {fn : Func} (hf : P.funcs[f]? = some fn) (hn : (fn.name == "runtime.NumGoroutine") = false) (hb : fn.body.isSome = true) {vs args : List Value} {w : World} {W : List Win} {n : Nat} {H' : Heap} {b : Bool}
    (hW : WinOk w W) (hG : GOK P gl (mw W)) (hrun : acall P gl E n f vs (hw W) = some (.bool b, H')) (hargs : LRel (mw W) vs args) :
    Calls P f args.toArray w fun e w' => e = .returned (.bool b) ∧ Below w.heap.size w w' := by
  have hc := acall_calls hm hE hEM hf hn hb hrun hargs (hw_rel hW) (hw_low W) hG
  refine hc.mono fun e w' ⟨m', v', he, hv, hs⟩ => ?_
  obtain rfl := hv.bool_inv
  refine ⟨he, ⟨hs.os, hs.tape, hs.output, hs.size, fun k hk => hs.frame k hk fun b blk p h ho hp => ?_⟩⟩
  obtain ⟨x, l, hx, _, rfl⟩ := hw_inv h
  cases ho

end Go.Eng
