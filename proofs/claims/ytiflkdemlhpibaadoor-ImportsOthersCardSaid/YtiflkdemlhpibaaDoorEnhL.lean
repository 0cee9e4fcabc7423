/- Kinds of operations. -/
import Derived.Test.YtiflkdemlhpibaaDoorEnhK
import Derived.Test.YtiflkdemlhpibaaDoorEnhI
set_option linter.unusedVariables false
namespace Go.Eng
open Go

def Low (H : Heap) : Prop := ∀ b blk, H.get b = some blk → b < H.n
/-- The heap does not shrink. -/
def Mono (H H' : Heap) : Prop := H.n ≤ H'.n ∧ (Low H → Low H')
theorem Mono.refl (H : Heap) : Mono H H := ⟨Nat.le_refl _, id⟩
theorem Mono.trans {a b c : Heap} (h : Mono a b) (h' : Mono b c) : Mono a c := ⟨Nat.le_trans h.1 h'.1, fun x => h'.2 (h.2 x)⟩
theorem Mono.push (H : Heap) (blk : Blk) : Mono H (H.push blk) := ⟨by simp [Heap.push], fun h b k hb => by
  simp only [Heap.push] at hb ⊢
  split at hb
  · omega
  · have := h b k hb; omega⟩
theorem Mono.upd {H : Heap} {j : Nat} {k : Option Blk} (hj : ∀ b, H.get j = some b → True) (hs : (H.get j).isSome = true) : Mono H (H.upd j k) := ⟨Nat.le_refl _, fun h b k' hb => by
  simp only [Heap.upd] at hb ⊢
  split at hb
  · rename_i he
    subst he
    obtain ⟨q, hq⟩ := Option.isSome_iff_exists.1 hs
    exact h b q hq
  · exact h b k' hb⟩
def CMono (C : CallF) : Prop := ∀ f args H v H', C f args H = some (v, H') → Mono H H'

section
variable {P : Program} {C : CallF} {env : Env} {o : Op} {H H' : Heap} {v : Value}
theorem kite {c : Prop} [Decidable c] {k : OKind} (h : (if c then OKind.act else OKind.pure) = k) : k = .act ∨ k = .pure := by
  by_cases hc : c
  · rw [if_pos hc] at h; exact .inl h.symm
  · rw [if_neg hc] at h; exact .inr h.symm
theorem up_inv {x : Option Value} (h : up x H = some (v, H')) : x = some v ∧ H' = H := by
  unfold up at h
  split at h
  · simp only [Option.some.injEq, Prod.mk.injEq] at h; exact ⟨by rw [h.1], h.2.symm⟩
  · cases h
theorem kind_pure (hk : kindOf P o = .pure) (h : aop P C env o H = some (v, H')) : H' = H ∧ ∀ H2, aop P C env o H2 = some (v, H2) := by
  have plain : ∀ x : Option Value, (∀ H, aop P C env o H = up x H) → H' = H ∧ ∀ H2, aop P C env o H2 = some (v, H2) := fun x hx => by
    rw [hx] at h
    obtain ⟨rfl, rfl⟩ := up_inv h
    exact ⟨rfl, fun H2 => by rw [hx]; rfl⟩
  cases o <;> simp only [kindOf] at hk <;> first
    | (cases hk; done)
    | skip
  case move x => exact plain (some (ev env x)) (fun H => rfl)
  case assign x => exact plain (some (ev env x)) (fun H => rfl)
  case pick c a b =>
    simp only [aop] at h ⊢
    split at h
    · simp only [Option.some.injEq, Prod.mk.injEq] at h; obtain ⟨rfl, rfl⟩ := h; exact ⟨rfl, fun _ => rfl⟩
    · cases h
  case build t ps =>
    simp only [aop] at h ⊢
    split at h
    · split at h
      · simp only [Option.some.injEq, Prod.mk.injEq] at h; obtain ⟨rfl, rfl⟩ := h; exact ⟨rfl, fun _ => rfl⟩
      · cases h
    · cases h
  case nilCheck x =>
    simp only [aop] at h ⊢
    split at h
    · simp only [Option.some.injEq, Prod.mk.injEq] at h; obtain ⟨rfl, rfl⟩ := h; exact ⟨rfl, fun _ => rfl⟩
    · simp only [Option.some.injEq, Prod.mk.injEq] at h; obtain ⟨rfl, rfl⟩ := h; exact ⟨rfl, fun _ => rfl⟩
    · cases h
  case binOp op t x y yt => exact plain _ (fun H => rfl)
  case unOp op t x => exact plain _ (fun H => rfl)
  case convert s d x =>
    simp only [aop] at h ⊢
    cases hc : cnvOf P s d <;> simp only [hc] at hk h ⊢ <;> first | (cases hk; done) | skip
    · simp only [cnv] at h ⊢
      split at h
      · simp only [Option.some.injEq, Prod.mk.injEq] at h; obtain ⟨rfl, rfl⟩ := h; exact ⟨rfl, fun _ => rfl⟩
      · cases h
    · simp only [cnv] at h ⊢
      split at h
      · simp only [Option.some.injEq, Prod.mk.injEq] at h; obtain ⟨rfl, rfl⟩ := h; exact ⟨rfl, fun _ => rfl⟩
      · cases h
    · simp only [cnv] at h ⊢
      split at h
      · simp only [Option.some.injEq, Prod.mk.injEq] at h; obtain ⟨rfl, rfl⟩ := h; exact ⟨rfl, fun _ => rfl⟩
      · cases h
    · simp [cnv] at h
  case makeFunc fn first captured =>
    cases fn <;> simp only [aop] at h ⊢ <;> first | (cases h; done) | skip
    simp only [Option.some.injEq, Prod.mk.injEq] at h; obtain ⟨rfl, rfl⟩ := h; exact ⟨rfl, fun _ => rfl⟩
  case slice t x lo hi mx =>
    simp only [aop] at h ⊢
    split at h
    · split at h
      · rename_i hmx
        obtain ⟨h2, rfl⟩ := up_inv h; exact ⟨rfl, fun _ => by rw [if_pos hmx, h2]; rfl⟩
      · cases h
    · split at h
      · obtain ⟨h2, rfl⟩ := up_inv h; exact ⟨rfl, fun _ => by rw [h2]; rfl⟩
      · cases h
    · split at h
      · obtain ⟨h2, rfl⟩ := up_inv h; exact ⟨rfl, fun _ => by rw [h2]; rfl⟩
      · cases h
    · cases h
  case fieldAddr s x f =>
    simp only [aop] at h ⊢
    split at h
    · split at h
      · split at h
        · obtain ⟨h2, rfl⟩ := up_inv h; exact ⟨rfl, fun _ => by rw [h2]; rfl⟩
        · cases h
      · cases h
    · cases h
  case field s x f =>
    simp only [aop] at h ⊢
    split at h
    · split at h
      · split at h
        · obtain ⟨h2, rfl⟩ := up_inv h; exact ⟨rfl, fun _ => by rw [h2]; rfl⟩
        · cases h
      · cases h
    · cases h
  case indexAddr t x i =>
    simp only [aop] at h ⊢
    split at h
    · split at h
      · obtain ⟨h2, rfl⟩ := up_inv h; exact ⟨rfl, fun _ => by rw [h2]; rfl⟩
      · cases h
    · split at h
      · obtain ⟨h2, rfl⟩ := up_inv h; exact ⟨rfl, fun _ => by rw [h2]; rfl⟩
      · cases h
    · cases h
  case index t x i =>
    simp only [aop] at h ⊢
    split at h
    · split at h
      · obtain ⟨h2, rfl⟩ := up_inv h; exact ⟨rfl, fun _ => by rw [h2]; rfl⟩
      · cases h
    · obtain ⟨h2, rfl⟩ := up_inv h; exact ⟨rfl, fun _ => by rw [h2]; rfl⟩
    · cases h
  case extract t ix =>
    simp only [aop] at h ⊢
    split at h
    · obtain ⟨h2, rfl⟩ := up_inv h; exact ⟨rfl, fun _ => by rw [h2]; rfl⟩
    · cases h
  case call c =>
    obtain ⟨callee, args, argTypes⟩ := c
    cases callee with
    | value f => simp only [kindOf] at hk; cases hk
    | invoke r n => simp only [kindOf] at hk; cases hk
    | builtin b =>
      simp only [aop] at h ⊢
      cases b <;> simp only [kindOf] at hk <;> first | (cases hk; done) | skip
      · simp only [builtinB] at h ⊢
        split at h
        all_goals first
          | (split at h
             · obtain ⟨h2, rfl⟩ := up_inv h; exact ⟨rfl, fun _ => by rw [h2]; rfl⟩
             · cases h; done)
          | (cases h; done)
          | contradiction
      · simp only [builtinB] at h ⊢
        split at h
        · rename_i x hx
          cases ht : argTypes[0]? with
          | none => rw [ht] at h; cases h
          | some t =>
            rw [ht] at h hk
            simp only at h hk
            by_cases hm : isMapT P t = true
            · rw [if_pos hm] at hk; cases hk
            · rw [if_neg hm] at h
              obtain ⟨h2, rfl⟩ := up_inv h
              refine ⟨rfl, fun _ => ?_⟩
              simp only [if_neg hm, h2]; rfl
        all_goals first
          | (cases h; done)
          | contradiction
      · simp only [builtinB] at h ⊢
        split at h
        all_goals first
          | (split at h
             · rename_i hc
               simp only [Option.some.injEq, Prod.mk.injEq] at h; obtain ⟨rfl, rfl⟩ := h; exact ⟨rfl, fun _ => by rw [if_pos hc]⟩
             · cases h; done)
          | (cases h; done)
          | contradiction
      · simp only [builtinB] at h ⊢
        split at h
        all_goals first
          | (split at h
             · rename_i hc
               simp only [Option.some.injEq, Prod.mk.injEq] at h; obtain ⟨rfl, rfl⟩ := h; exact ⟨rfl, fun _ => by rw [if_pos hc]⟩
             · cases h; done)
          | (cases h; done)
          | contradiction

theorem kind_make (hk : kindOf P o = .make) (h : aop P C env o H = some (v, H')) : ∃ blk, H' = H.push blk ∧ (blk.cells.all oneC = true ∧ blk.own = true) ∧ ∀ H2 : Heap, H2.n = H.n → aop P C env o H2 = some (v, H2.push blk) := by
  have hV : ∀ {cs : List Value} {H' : Heap}, newV cs H = some (v, H') → ∃ blk, H' = H.push blk ∧ (blk.cells.all oneC = true ∧ blk.own = true) ∧ ∀ H2 : Heap, H2.n = H.n → newV cs H2 = some (v, H2.push blk) := fun {cs H'} h => by
    unfold newV at h ⊢
    split at h
    · rename_i h1
      simp only [Option.some.injEq, Prod.mk.injEq] at h
      obtain ⟨rfl, rfl⟩ := h
      exact ⟨_, rfl, ⟨h1, rfl⟩, fun H2 hn => by rw [if_pos h1, hn]⟩
    · cases h
  have hS : ∀ {cs : List Value} {sz len cap : Nat} {H' : Heap}, newS sz len cap cs H = some (v, H') → ∃ blk, H' = H.push blk ∧ (blk.cells.all oneC = true ∧ blk.own = true) ∧ ∀ H2 : Heap, H2.n = H.n → newS sz len cap cs H2 = some (v, H2.push blk) := fun {cs sz len cap H'} h => by
    unfold newS at h ⊢
    split at h
    · rename_i h1
      simp only [Option.some.injEq, Prod.mk.injEq] at h
      obtain ⟨rfl, rfl⟩ := h
      exact ⟨_, rfl, ⟨h1, rfl⟩, fun H2 hn => by rw [if_pos h1, hn]⟩
    · cases h
  cases o <;> simp only [kindOf] at hk <;> first | (cases hk; done) | skip
  case alloc e =>
    simp only [aop] at h ⊢
    split at h
    · exact hV h
    · cases h
  case box e x => simp only [aop] at h ⊢; exact hV h
  case buildSlice t len ps =>
    simp only [aop] at h ⊢
    split at h
    · split at h
      · split at h
        · rename_i hc
          split at h
          · obtain ⟨blk, h1, h2, h3⟩ := hS h
            exact ⟨blk, h1, h2, fun H2 hn => by rw [if_pos hc]; exact h3 H2 hn⟩
          · cases h
        · cases h
      · cases h
    · cases h
  case makeSlice t l c =>
    simp only [aop] at h ⊢
    split at h
    · split at h
      · split at h
        · rename_i hc
          obtain ⟨blk, h1, h2, h3⟩ := hS h
          exact ⟨blk, h1, h2, fun H2 hn => by rw [if_pos hc]; exact h3 H2 hn⟩
        · cases h
      · cases h
    · cases h
  case convert s d x =>
    simp only [aop] at h ⊢
    cases hc : cnvOf P s d <;> simp only [hc] at hk h ⊢ <;> first | (cases hk; done) | skip
    simp only [cnv, ofStr] at h ⊢
    split at h
    · split at h
      · rename_i s' hs'
        simp only [Option.some.injEq, Prod.mk.injEq] at h
        obtain ⟨rfl, rfl⟩ := h
        refine ⟨_, rfl, ⟨?_, rfl⟩, fun H2 hn => by rw [if_pos hs', hn]⟩
        rw [List.all_eq_true]
        intro y hy
        obtain ⟨c, _, rfl⟩ := List.mem_map.1 hy
        rfl
      · cases h
    · cases h
  case call c =>
    obtain ⟨callee, args, argTypes⟩ := c
    cases callee with
    | value f => simp only [kindOf] at hk; cases hk
    | invoke r n => simp only [kindOf] at hk; cases hk
    | builtin b => cases b <;> simp only [kindOf] at hk <;> first | (cases hk; done) | (rcases kite hk with h1 | h1 <;> cases h1)

theorem kind_read (hk : kindOf P o = .read) (h : aop P C env o H = some (v, H')) : H' = H ∧ True ∧ ∀ H2 : Heap, (∀ b, readBlk env o = some b → H2.get b = H.get b) → aop P C env o H2 = some (v, H2) := by
  cases o <;> simp only [kindOf] at hk <;> first | (cases hk; done) | skip
  case load t x =>
    simp only [aop, readBlk] at h ⊢
    have hA : ∀ k, ldA k (ev env x) H = some (v, H') → H' = H ∧ True ∧ ∀ H2 : Heap, (∀ b, blkOf (ev env x) = some b → H2.get b = H.get b) → ldA k (ev env x) H2 = some (v, H2) := fun k h => by
      unfold ldA at h ⊢
      split at h
      · rename_i b o he
        split at h
        · rename_i blk hb
          split at h
          · rename_i hc
            simp only [Option.some.injEq, Prod.mk.injEq] at h
            obtain ⟨rfl, rfl⟩ := h
            rw [he]
            exact ⟨rfl, trivial, fun H2 h2 => by simp only [h2 b rfl, hb, if_pos hc]⟩
          · cases h
        · cases h
      · cases h
    have hCc : ldC (ev env x) H = some (v, H') → H' = H ∧ True ∧ ∀ H2 : Heap, (∀ b, blkOf (ev env x) = some b → H2.get b = H.get b) → ldC (ev env x) H2 = some (v, H2) := fun h => by
      unfold ldC at h ⊢
      split at h
      · rename_i b o he
        split at h
        · rename_i blk hb
          split at h
          · rename_i v' hc
            simp only [Option.some.injEq, Prod.mk.injEq] at h
            obtain ⟨rfl, rfl⟩ := h
            rw [he]
            exact ⟨rfl, trivial, fun H2 h2 => by simp only [h2 b rfl, hb, hc]⟩
          · cases h
        · cases h
      · cases h
    split at h
    · rename_i k ha hk'
      obtain ⟨h1, h2, h3⟩ := hA k h
      exact ⟨h1, h2, fun H2 hb => h3 H2 hb⟩
    · rename_i ha
      obtain ⟨h1, h2, h3⟩ := hCc h
      exact ⟨h1, h2, fun H2 hb => h3 H2 hb⟩
    · cases h
  case convert s d x =>
    simp only [aop, readBlk] at h ⊢
    cases hc : cnvOf P s d <;> simp only [hc] at hk h ⊢ <;> first | (cases hk; done) | skip
    simp only [cnv, toStr] at h ⊢
    split at h
    · rename_i he
      simp only [Option.some.injEq, Prod.mk.injEq] at h
      obtain ⟨rfl, rfl⟩ := h
      rw [he]
      exact ⟨rfl, trivial, fun _ _ => rfl⟩
    · rename_i b o sp n c he
      split at h
      · rename_i hn
        simp only [Option.some.injEq, Prod.mk.injEq] at h
        obtain ⟨rfl, rfl⟩ := h
        rw [he]
        exact ⟨rfl, trivial, fun _ _ => by simp only [if_pos hn]⟩
      rename_i hn
      split at h
      · rename_i blk hb
        split at h
        · rename_i hle
          split at h
          · rename_i l hl
            simp only [Option.some.injEq, Prod.mk.injEq] at h
            obtain ⟨rfl, rfl⟩ := h
            rw [he]
            exact ⟨rfl, trivial, fun H2 h2 => by simp only [if_neg hn, h2 b rfl, hb, if_pos hle, hl]⟩
          · cases h
        · cases h
      · cases h
    · cases h
  case call c =>
    obtain ⟨callee, args, argTypes⟩ := c
    cases callee with
    | value f => exact nomatch (show OKind.act = OKind.read from hk)
    | invoke r n => exact nomatch (show OKind.act = OKind.read from hk)
    | builtin b =>
      cases b <;> first
        | exact nomatch (show OKind.act = OKind.read from hk)
        | exact nomatch (show OKind.pure = OKind.read from hk)
        | (simp only [kindOf] at hk; rcases kite hk with h1 | h1 <;> cases h1)
end

end Go.Eng
