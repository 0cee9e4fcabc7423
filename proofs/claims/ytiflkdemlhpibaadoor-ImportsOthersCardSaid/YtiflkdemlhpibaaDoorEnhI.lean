/- Regions in the text's order; code; calls. -/
import Derived.Test.YtiflkdemlhpibaaDoorEnhH
import Derived.LoopN
set_option linter.unusedVariables false
namespace Go.Eng
open Go

theorem ERel.mono {m m' : Mp} (hm : MLe m m') {env : Env} {a : Act} (h : ERel m env a) : ERel m' env a := fun t => (h t).mono hm
theorem ERel.put {m : Mp} {env : Env} {a : Act} (h : ERel m env a) {d : Option Tmp} {v v' : Value} (hv : VRel m v v') {N : Nat} (hN : a.tmps.size = N) : ERel m (putE N env d v) (a.put d v') := by
  intro t
  unfold putE Act.put
  cases d with
  | none => exact h t
  | some d =>
    simp only
    split
    · rename_i hd
      by_cases ht : t = d
      · subst ht
        simp only [if_true]
        simpa [Array.getD_eq_getD_getElem?, hN, hd] using hv
      · simp only [if_neg ht]
        have := h t
        simpa [Array.getD_eq_getD_getElem?, Array.getElem?_setIfInBounds_ne (Ne.symm ht)] using this
    · rename_i hd
      have := h t
      rwa [Array.setIfInBounds_eq_of_size_le (by rw [hN]; exact Nat.le_of_not_lt hd)]
theorem put_size {a : Act} {d : Option Tmp} {v : Value} : (a.put d v).tmps.size = a.tmps.size := by unfold Act.put; cases d <;> simp
theorem put_defers {a : Act} {d : Option Tmp} {v : Value} : (a.put d v).defers = a.defers := by unfold Act.put; cases d <;> simp
theorem GOK.mono {P : Program} {gl : Bool} {m m' : Mp} (hm : MLe m m') (h : GOK P gl m) : GOK P gl m' := fun hg g hlt => hm _ _ (h hg g hlt)

theorem VRel.bool_back {m : Mp} {v : Value} {b : Bool} (h : VRel m v (.bool b)) : v = .bool b := by
  cases h with
  | flat h => rfl
theorem VRel.not_bool {m : Mp} {v c : Value} (h : VRel m v c) (hc : ∀ b, c ≠ .bool b) : ∀ b, v ≠ .bool b := fun b hb => by
  subst hb
  exact hc b h.bool_inv
theorem wanted_sound' {m : Mp} {env : Env} {a : Act} (all : List Oper) (o : Oper) (hE : ∀ j want d, o.guard = some (j, want) → (all[j]?).bind (·.dst) = some d → VRel m (env d) (a.tmps.getD d undef)) : Region.wanted o (yielded all.toArray a.tmps) = wantedE all o env := by
  unfold Region.wanted wantedE
  cases hgd : o.guard with
  | none => rfl
  | some g =>
    obtain ⟨j, want⟩ := g
    simp only [yielded]
    have e1 : all.toArray[j]? = all[j]? := by simp
    rw [e1]
    cases hd : (all[j]?).bind (·.dst) with
    | none => simp
    | some d =>
      simp only [Option.bind_some]
      have h := hE j want d hgd hd
      cases hc : a.tmps[d]? with
      | none =>
        have : a.tmps.getD d undef = undef := by simp [Array.getD_eq_getD_getElem?, hc]
        rw [this] at h
        have hnb := h.not_bool (by simp [undef])
        cases he : env d with
        | bool b => exact absurd he (hnb b)
        | _ => rfl
      | some v =>
        have : a.tmps.getD d undef = v := by simp [Array.getD_eq_getD_getElem?, hc]
        rw [this] at h
        cases v with
        | bool b => rw [h.bool_back]; simp
        | _ =>
          have hnb := h.not_bool (by simp)
          cases he : env d with
          | bool b => exact absurd he (hnb b)
          | _ => rfl

theorem wanted_sound {m : Mp} {env : Env} {a : Act} (hE : ERel m env a) (all : List Oper) (o : Oper) : Region.wanted o (yielded all.toArray a.tmps) = wantedE all o env :=
  wanted_sound' all o fun _ _ d _ _ => hE d

theorem rounds_mono {P : Program} {c : Code} {Q Q' : Exit → Act → World → Prop} (hq : ∀ e a w, Q e a w → Q' e a w) : ∀ (n : Nat) (a : Act) (w : World), Code.rounds P c Q n a w → Code.rounds P c Q' n a w
  | 0, _, _, h => h
  | n + 1, a, w, h => by
    rw [rounds_succ] at h ⊢
    refine Code.wp_mono (fun e a w he => ?_) h
    cases e <;> first | exact rounds_mono hq n a w he | exact hq _ _ _ he

section
variable {P : Program} {gl : Bool} {C : CallF} {N : Nat} {Q : Exit → Act → World → Prop}
theorem aops_sound (hC : CSound P gl C) (all : List Oper) : ∀ (l : List Oper) (k : Nat), (∀ j, l[j]? = all[k + j]?) → ∀ {m : Mp} {env env' : Env} {H H' : Heap} {a : Act} {w : World},
    aops P C N all l env H = some (env', H') → GOK P gl m → ERel m env a → HRel m H w → MLow m H.n → (l.all fun o => o.op.operands.toList.all (okOpd P gl)) = true → a.tmps.size = N →
    (∀ m' a' w', ERel m' env' a' → Step m H w m' H' w' → a'.tmps.size = N → a'.defers = a.defers → Q .normal a' w') → wpOps P all.toArray Q (List.range' k l.length) a w
  | [], k, hl, m, env, env', H, H', a, w, h, hg, hE, hr, hlow, hok, hN, hq => by
    simp only [aops, Option.some.injEq, Prod.mk.injEq] at h
    obtain ⟨rfl, rfl⟩ := h
    exact hq m a w hE (Step.refl hr) hN rfl
  | o :: l, k, hl, m, env, env', H, H', a, w, h, hg, hE, hr, hlow, hok, hN, hq => by
    have h0 : all.toArray[k]? = some o := by have := hl 0; simpa using this.symm
    have hl' : ∀ j, l[j]? = all[k + 1 + j]? := fun j => by have := hl (j + 1); simpa [Nat.add_assoc, Nat.add_comm 1 j] using this
    simp only [List.all_cons, Bool.and_eq_true] at hok
    simp only [aops] at h
    simp only [List.length_cons, List.range'_succ, wpOps, h0]
    rw [wanted_sound hE]
    split at h
    · rename_i hw
      rw [if_pos hw]
      left
      split at h
      case h_2 => cases h
      rename_i v H1 hv
      have := aop_sound (Q := Q) hC hg hE hr hlow hok.1 hv
      refine Oper.wp_mono (K := fun a' w' => ∃ m' v', a' = a.put o.dst v' ∧ VRel m' v v' ∧ Step m H w m' H1 w') (fun a' w' ⟨m', v', ha, hvr, hs⟩ => ?_) this
      subst ha
      have hle := hs.mle hlow
      exact aops_sound hC all l (k + 1) hl' h (hg.mono hle) (ERel.put (hE.mono hle) hvr hN) hs.rel (hs.keepLow hlow) hok.2 (by rw [put_size]; exact hN)
        (fun m2 a2 w2 h1 h2 h3 h4 => hq m2 a2 w2 h1 (hs.trans h2) h3 (by rw [h4, put_defers]))
    · rename_i hw
      rw [if_neg hw]
      exact aops_sound hC all l (k + 1) hl' h hg (ERel.put hE VRel.undef hN) hr hlow hok.2 (by rw [put_size]; exact hN) (fun m2 a2 w2 h1 h2 h3 h4 => hq m2 a2 w2 h1 h2 h3 (by rw [h4, put_defers]))

end
end Go.Eng
