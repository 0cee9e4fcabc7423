import Derived.Test.YtimhmmeoliagjaaDoorEnhU
import Derived.Calls
set_option linter.unusedVariables false
namespace Go.Eng
open Go

def isP : Value → Bool
  | .iface _ _ => true
  | _ => false
def bndP (r : Option (Value × Heap)) (k : Value → Heap → Option (Value × Heap)) : Option (Value × Heap) :=
  match r with
  | some (v, H) => if isP v = true then some (v, H) else k v H
  | none => none
def realP : Seam (Value × Heap) := ⟨bndP, iff, chk⟩
theorem realP_b : realP.b = bndP := of_eq_true (eq_self _)
theorem realP_i : realP.i = iff := of_eq_true (eq_self _)
theorem realP_c : realP.c = chk := of_eq_true (eq_self _)
theorem isP_inv {v : Value} (h : isP v = true) : ∃ t u, v = .iface t u := by
  cases v <;> first | exact ⟨_, _, rfl⟩ | cases h
theorem VRel.notP {m : Mp} {v v' : Value} (h : VRel m v v') : isP v = false := by
  cases h with
  | flat h => cases v <;> first | rfl | cases h
  | _ => rfl

def entry (t : TypeId) (u : Value) : PanicEntry := { v := .iface t u, recovered := false }
def CSoundP (P : Program) (gl : Bool) (pan : FuncId → Bool) (C : CallF) : Prop := ∀ (f : FuncId) (args : List Value) (H : Heap) (v : Value) (H' : Heap), C f args H = some (v, H') →
  ∀ (m : Mp) (w : World) (args' : List Value), LRel m args args' → HRel m H w → MLow m H.n → GOK P gl m →
    ((pan f = false ∨ isP v = false) →
      (((callFunc f args'.toArray).run P w = .ok (.enter f args'.toArray) w ∧
        Calls P f args'.toArray w fun e w' => ∃ m' v', e = .returned v' ∧ VRel m' v v' ∧ Step m H w m' H' w') ∨
        ∃ m' v' w', (callFunc f args'.toArray).run P w = .ok (.value v') w' ∧ VRel m' v v' ∧ Step m H w m' H' w')) ∧
    (pan f = true → ∀ t u, v = .iface t u → flat1 u = true ∧ (callFunc f args'.toArray).run P w = .ok (.enter f args'.toArray) w ∧
        Calls P f args'.toArray w fun e w' => ∃ m', e = .panicked [entry t u] ∧ Step m H w m' H' w')

def cut0 (C : CallF) : CallF := fun f args H => match C f args H with | some (v, H') => if isP v = true then none else some (v, H') | none => none
def cut1 (pan : FuncId → Bool) (C : CallF) : CallF := fun f args H => if pan f = true then none else C f args H
theorem cut0_sound {P : Program} {gl : Bool} {pan : FuncId → Bool} {C : CallF} (h : CSoundP P gl pan C) : CSound P gl (cut0 C) := by
  intro f args H v H' hc m w args' ha hr hl hg
  unfold cut0 at hc
  split at hc
  · rename_i v1 H1 h1
    split at hc
    · cases hc
    · rename_i hp
      simp only [Option.some.injEq, Prod.mk.injEq] at hc
      obtain ⟨rfl, rfl⟩ := hc
      exact (h f args H _ _ h1 m w args' ha hr hl hg).1 (.inr (by simpa using hp))
  · cases hc
theorem cut1_sound {P : Program} {gl : Bool} {pan : FuncId → Bool} {C : CallF} (h : CSoundP P gl pan C) : CSound P gl (cut1 pan C) := by
  intro f args H v H' hc m w args' ha hr hl hg
  unfold cut1 at hc
  split at hc
  · cases hc
  · rename_i hp
    exact (h f args H _ _ hc m w args' ha hr hl hg).1 (.inl (by simpa using hp))

theorem calls_elim {P : Program} {f : FuncId} {args : Array Value} {w : World} {R : Ending → World → Prop} (h : Calls P f args w R) : ∃ e w', R e w' :=
  let ⟨e, w', _, hR, _⟩ := h []
  ⟨e, w', hR⟩
theorem wp_elim {P : Program} {o : Oper} {a : Act} {w : World} {K : Act → World → Prop} (h : o.wp P a w K (fun _ _ _ => False)) : ∃ a' w', K a' w' := by
  unfold Oper.wp at h
  generalize (execOp a.eval o).run P w = r at h
  cases r with
  | ok n w' =>
    cases n with
    | value v => exact ⟨_, _, h⟩
    | skip => exact ⟨_, _, h⟩
    | «defer» d => exact ⟨_, _, h⟩
    | enter f args =>
      obtain ⟨e, w2, he⟩ := calls_elim h
      cases e with
      | returned v => exact ⟨_, _, he⟩
      | panicked ch => exact he.elim
      | outgrown => obtain ⟨_, _, hf⟩ := he; exact hf.elim
    | row row args =>
      obtain ⟨v, w2, hR, _⟩ := h default []
      exact ⟨_, _, hR⟩
    | _ => exact h.elim
  | halt x w' => cases x <;> first | exact h.elim | (simp only [Oper.upon] at h)

section
variable {P : Program} {gl : Bool} {pan : FuncId → Bool} {C : CallF} {N : Nat} {Q : Exit → Act → World → Prop}
theorem aop_any {C' : CallF} {env : Env} {o : Op} {H : Heap} (h : ∀ c, o ≠ .call c) : aop P C env o H = aop P C' env o H := by
  cases o <;> first | rfl | exact absurd rfl (h _) | skip
  case makeFunc fn _ _ => cases fn <;> rfl
  case next x b => cases b <;> rfl
theorem aop_cut0 {env : Env} {o : Op} {H H' : Heap} {v : Value} (h : aop P C env o H = some (v, H')) (hp : isP v = false) : aop P (cut0 C) env o H = some (v, H') := by
  by_cases hc : ∃ c, o = .call c
  · obtain ⟨c, rfl⟩ := hc
    obtain ⟨callee, args, tys⟩ := c
    cases callee <;> first | exact h | skip
    rename_i f
    simp only [aop] at h ⊢
    split at h
    · rename_i g first captured hf
      simp only [cut0, h, hp]
      rfl
    · cases h
  · rw [← h]; exact aop_any fun c hc' => hc ⟨c, hc'⟩
theorem aop_pan {env : Env} {o : Op} {H H' : Heap} {v : Value} (h : aop P C env o H = some (v, H')) :
    (∃ f args tys g first captured, o = .call ⟨.value f, args, tys⟩ ∧ ev env f = .func (.func g) first captured ∧ C g (first.toList ++ args.toList.map (ev env) ++ captured.toList) H = some (v, H')) ∨ aop P (cut0 C) env o H = some (v, H') := by
  by_cases hc : ∃ c, o = .call c
  · obtain ⟨c, rfl⟩ := hc
    obtain ⟨callee, args, tys⟩ := c
    cases callee <;> first | exact .inr h | skip
    rename_i f
    simp only [aop] at h
    split at h
    · rename_i g first captured hf
      exact .inl ⟨f, args, tys, g, first, captured, rfl, hf, h⟩
    · cases h
  · exact .inr (by rw [← h]; exact aop_any fun c hc' => hc ⟨c, hc'⟩)
theorem aopP_norm (hC : CSoundP P gl pan C) {m : Mp} {H H' : Heap} {w : World} {env : Env} {a : Act} {o : Oper} {v : Value} (hg : GOK P gl m) (hE : ERel m env a) (hr : HRel m H w) (hl : MLow m H.n)
    (hok : o.op.operands.toList.all (okOpd P gl) = true) (h : aop P C env o.op H = some (v, H')) (hp : isP v = false) :
    o.wp P a w (fun a' w' => ∃ m' v', a' = a.put o.dst v' ∧ VRel m' v v' ∧ Step m H w m' H' w') Q :=
  aop_sound (cut0_sound hC) hg hE hr hl hok (aop_cut0 h hp)
theorem aopP_pan (hC : CSoundP P gl pan C) {m : Mp} {H H' : Heap} {w : World} {env : Env} {a : Act} {o : Oper} {v : Value} (hg : GOK P gl m) (hE : ERel m env a) (hr : HRel m H w) (hl : MLow m H.n)
    (hok : o.op.operands.toList.all (okOpd P gl) = true) (h : aop P C env o.op H = some (v, H')) (hp : isP v = true) :
    ∃ t u f args tys g first captured, v = .iface t u ∧ flat1 u = true ∧ o.op = .call ⟨.value f, args, tys⟩ ∧ ev env f = .func (.func g) first captured ∧ pan g = true ∧
      ∀ (K : Act → World → Prop) (Q : Exit → Act → World → Prop), (∀ m' w', Step m H w m' H' w' → Q (.panic [entry t u]) a w') → o.wp P a w K Q := by
  obtain ⟨t, u, rfl⟩ := isP_inv hp
  rcases aop_pan h with ⟨f, args, tys, g, first, captured, ho, hf, hc⟩ | h0
  · have hfr : VRel m (ev env f) (a.eval f) := ev_sound hE hg (by
      rw [List.all_eq_true] at hok
      exact hok f (by rw [ho]; simp [Op.operands, Call.operands]))
    have har : LRel m (args.toList.map (ev env)) (args.toList.map a.eval) := evs_sound hE hg (by
      rw [List.all_eq_true] at hok ⊢
      intro x hx
      exact hok x (by rw [ho]; simp [Op.operands, Call.operands]; exact .inr (by simpa using hx)))
    rw [hf] at hfr
    have : ∃ c' d', a.eval f = .func (.func g) c' d' ∧ LRel m first.toList c'.toList ∧ LRel m captured.toList d'.toList := by
      generalize a.eval f = y at hfr
      cases hfr with
      | flat hf => simp [flat1] at hf
      | func h1 h2 h3 h4 => exact ⟨_, _, rfl, ⟨h1, h3⟩, ⟨h2, h4⟩⟩
    obtain ⟨c', d', hy, hl1, hl2⟩ := this
    have harr : (c'.toList ++ args.toList.map a.eval ++ d'.toList).toArray = c' ++ args.map a.eval ++ d' := by apply Array.ext'; simp
    have hs := hC g _ H _ _ hc m w _ ((hl1.append har).append hl2) hr hl hg
    cases hpg : pan g with
    | false =>
      rcases hs.1 (.inl hpg) with ⟨_, g2⟩ | ⟨m', v', w', _, g2, _⟩
      · obtain ⟨e, w2, m', v', _, hv, _⟩ := calls_elim g2
        exact absurd hv.notP (by simp [isP])
      · exact absurd g2.notP (by simp [isP])
    | true =>
      obtain ⟨hu, g1, g2⟩ := hs.2 hpg t u rfl
      refine ⟨t, u, f, args, tys, g, first, captured, rfl, hu, ho, hf, hpg, fun K Q hq => ?_⟩
      rw [harr] at g1 g2
      unfold Oper.wp
      obtain ⟨dst, op, type, pos, after, guard⟩ := o
      simp only at ho
      subst ho
      have : (execOp a.eval ⟨dst, .call ⟨.value f, args, tys⟩, type, pos, after, guard⟩).run P w = .ok (.enter g (c' ++ args.map a.eval ++ d')) w := by
        simp [execOp, resolve, hy, Deferred.ofValue, invoke] at g1 ⊢
        exact g1
      rw [this]
      exact g2.mono fun e w' ⟨m', he, hs⟩ => by subst he; exact hq m' w' hs
  · have := aop_sound (Q := fun _ _ _ => False) (cut0_sound hC) hg hE hr hl hok h0
    obtain ⟨a', w', m', v', _, hv, _⟩ := wp_elim this
    exact absurd hv.notP (by simp [isP])

theorem putE_ne {env : Env} {d : Option Tmp} {v : Value} {t : Tmp} (h : d ≠ some t) : putE N env d v t = env t := by
  unfold putE
  cases d with
  | none => rfl
  | some d =>
    simp only
    split
    · exact if_neg (fun e => h (by rw [e]))
    · rfl
theorem aopsP_sound (hC : CSoundP P gl pan C) (all : List Oper) {kk : Env → Heap → Option (Value × Heap)} {r : Value × Heap} : ∀ (l : List Oper) (k : Nat), (∀ j, l[j]? = all[k + j]?) → ∀ {m : Mp} {env : Env} {H : Heap} {a : Act} {w : World},
    aopsK realP P C N all l env H kk = some r → GOK P gl m → ERel m env a → HRel m H w → MLow m H.n → (l.all fun o => o.op.operands.toList.all (okOpd P gl)) = true → a.tmps.size = N →
    (∀ m' env' H' a' w', kk env' H' = some r → ERel m' env' a' → Step m H w m' H' w' → a'.tmps.size = N → a'.defers = a.defers → (∀ t, (∀ o ∈ l, o.dst ≠ some t) → env' t = env t) → Q .normal a' w') →
    (∀ t u m' env' a' w', r.1 = .iface t u → flat1 u = true → ERel m' env' a' → Step m H w m' r.2 w' → a'.tmps.size = N → a'.defers = a.defers → (∀ t, (∀ o ∈ l, o.dst ≠ some t) → env' t = env t) → Q (.panic [entry t u]) a' w') →
    wpOps P all.toArray Q (List.range' k l.length) a w
  | [], k, hl, m, env, H, a, w, h, hg, hE, hr, hlow, hok, hN, hq, hp => hq m env H a w h hE (Step.refl hr) hN rfl fun _ _ => rfl
  | o :: l, k, hl, m, env, H, a, w, h, hg, hE, hr, hlow, hok, hN, hq, hp => by
    have h0 : all.toArray[k]? = some o := by have := hl 0; simpa using this.symm
    have hl' : ∀ j, l[j]? = all[k + 1 + j]? := fun j => by have := hl (j + 1); simpa [Nat.add_assoc, Nat.add_comm 1 j] using this
    simp only [List.all_cons, Bool.and_eq_true] at hok
    simp only [List.length_cons, List.range'_succ, wpOps, h0]
    rw [wanted_sound hE]
    have frame : ∀ {env1 env' : Env} {v : Value}, env1 = putE N env o.dst v → (∀ t, (∀ o ∈ l, o.dst ≠ some t) → env' t = env1 t) → ∀ t, (∀ q ∈ o :: l, q.dst ≠ some t) → env' t = env t := fun {env1 env' v} he hf t ht => by
      rw [hf t fun q hq => ht q (List.mem_cons_of_mem _ hq), he, putE_ne (ht o (List.mem_cons_self ..))]
    have go : ∀ {v : Value} {H1 : Heap}, wantedE all o env = true → aop P C env o.op H = some (v, H1) → isP v = false → aopsK realP P C N all l (putE N env o.dst v) H1 kk = some r →
        o.wp P a w (wpOps P all.toArray Q (List.range' (k + 1) l.length)) Q := fun {v H1} hw hv hpv h => by
      refine Oper.wp_mono (K := fun a' w' => ∃ m' v', a' = a.put o.dst v' ∧ VRel m' v v' ∧ Step m H w m' H1 w') (fun a' w' ⟨m', v', ha, hvr, hs⟩ => ?_) (aopP_norm hC hg hE hr hlow hok.1 hv hpv)
      subst ha
      have hle := hs.mle hlow
      exact aopsP_sound hC all l (k + 1) hl' h (hg.mono hle) (ERel.put (hE.mono hle) hvr hN) hs.rel (hs.keepLow hlow) hok.2 (by rw [put_size]; exact hN)
        (fun m2 env2 H2 a2 w2 h0 h1 h2 h3 h4 h5 => hq m2 env2 H2 a2 w2 h0 h1 (hs.trans h2) h3 (by rw [h4, put_defers]) (frame rfl h5))
        (fun t u m2 env2 a2 w2 g1 g2 h1 h2 h3 h4 h5 => hp t u m2 env2 a2 w2 g1 g2 h1 (hs.trans h2) h3 (by rw [h4, put_defers]) (frame rfl h5))
    simp only [aopsK] at h
    cases hpl : plainOf o with
    | some x =>
      simp only [hpl] at h
      obtain ⟨q1, q2, _⟩ := plain_eq (P := P) (C := C) (all := all) hpl env H
      rw [if_pos q1]
      left
      refine Oper.wp_mono (K := fun a' w' => ∃ m' v', a' = a.put o.dst v' ∧ VRel m' (ev env x) v' ∧ Step m H w m' H w') (fun a' w' ⟨m', v', ha, hvr, hs⟩ => ?_) (aop_sound (cut0_sound hC) hg hE hr hlow hok.1 (plain_eq (P := P) (C := cut0 C) (all := all) hpl env H).2.1)
      subst ha
      have hle := hs.mle hlow
      exact aopsP_sound hC all l (k + 1) hl' h (hg.mono hle) (ERel.put (hE.mono hle) hvr hN) hs.rel (hs.keepLow hlow) hok.2 (by rw [put_size]; exact hN)
        (fun m2 env2 H2 a2 w2 h0 h1 h2 h3 h4 h5 => hq m2 env2 H2 a2 w2 h0 h1 (hs.trans h2) h3 (by rw [h4, put_defers]) (frame rfl h5))
        (fun t u m2 env2 a2 w2 g1 g2 h1 h2 h3 h4 h5 => hp t u m2 env2 a2 w2 g1 g2 h1 (hs.trans h2) h3 (by rw [h4, put_defers]) (frame rfl h5))
    | none =>
      simp only [hpl, realP_b, bndP, opK_eq] at h
      by_cases hw : wantedE all o env = true
      · rw [if_pos hw] at h ⊢
        left
        cases hv : aop P C env o.op H with
        | none => rw [hv] at h; cases h
        | some p =>
          obtain ⟨v, H1⟩ := p
          rw [hv] at h
          simp only at h
          cases hpv : isP v with
          | true =>
            rw [hpv, if_pos rfl] at h
            obtain ⟨t, u, _, _, _, _, _, _, rfl, hu, _, _, _, hwp⟩ := aopP_pan hC hg hE hr hlow hok.1 hv hpv
            simp only [Option.some.injEq] at h
            subst h
            exact hwp _ _ fun m' w' hs => hp t u m' env a w' rfl hu (hE.mono (hs.mle hlow)) hs hN rfl fun _ _ => rfl
          | false =>
            rw [hpv] at h
            exact go hw hv hpv (by simpa using h)
      · rw [if_neg hw] at h ⊢
        have h : aopsK realP P C N all l (putE N env o.dst undef) H kk = some r := h
        exact aopsP_sound hC all l (k + 1) hl' h hg (ERel.put hE VRel.undef hN) hr hlow hok.2 (by rw [put_size]; exact hN)
          (fun m2 env2 H2 a2 w2 h0 h1 h2 h3 h4 h5 => hq m2 env2 H2 a2 w2 h0 h1 h2 h3 (by rw [h4, put_defers]) (frame rfl h5))
          (fun t u m2 env2 a2 w2 g1 g2 h1 h2 h3 h4 h5 => hp t u m2 env2 a2 w2 g1 g2 h1 h2 h3 (by rw [h4, put_defers]) (frame rfl h5))

def freeOf (pan : FuncId → Bool) (o : Oper) : Bool := match o.op with
  | .call ⟨.value (.func g), _, _⟩ => !pan g
  | .call ⟨.value _, _, _⟩ => false
  | _ => true
theorem aop_cut1 {env : Env} {o : Oper} (hf : freeOf pan o = true) (H : Heap) : aop P (cut1 pan C) env o.op H = aop P C env o.op H := by
  obtain ⟨dst, op, type, pos, after, guard⟩ := o
  by_cases hc : ∃ c, op = .call c
  · obtain ⟨c, rfl⟩ := hc
    obtain ⟨callee, args, tys⟩ := c
    cases callee <;> first | rfl | skip
    rename_i f
    cases f <;> simp only [freeOf] at hf <;> first | (cases hf; done) | skip
    rename_i g
    have hf : pan g = false := by simpa using hf
    simp [aop, ev, cut1, hf]
  · exact aop_any fun c hc' => hc ⟨c, hc'⟩
theorem aopsD_cut1 (all : List Oper) (bf : List Nat) : ∀ (l : List Oper) (i : Nat) (acts : List (Nat × Heap × Heap)) (reads : List (Nat × Option Nat)) (env : Env) (H : Heap), l.all (freeOf pan) = true → aopsD P (cut1 pan C) N all bf l i acts reads env H = aopsD P C N all bf l i acts reads env H
  | [], _, _, _, _, _, _ => rfl
  | o :: l, i, acts, reads, env, H, h => by
    simp only [List.all_cons, Bool.and_eq_true] at h
    have ih := fun i acts reads env H => aopsD_cut1 all bf l i acts reads env H h.2
    simp only [aopsD, aop_cut1 h.1, ih]
theorem aopsD_frame (all : List Oper) (bf : List Nat) : ∀ (l : List Oper) (i : Nat) (acts : List (Nat × Heap × Heap)) (reads : List (Nat × Option Nat)) (env env' : Env) (H H' : Heap), aopsD P C N all bf l i acts reads env H = some (env', H') → ∀ t, (∀ o ∈ l, o.dst ≠ some t) → env' t = env t
  | [], _, _, _, env, env', H, H', h, t, ht => by
    simp only [aopsD, Option.some.injEq, Prod.mk.injEq] at h
    rw [h.1]
  | o :: l, i, acts, reads, env, env', H, H', h, t, ht => by
    have ih : ∀ {i acts reads H v}, aopsD P C N all bf l i acts reads (putE N env o.dst v) H = some (env', H') → env' t = env t := fun {i acts reads H v} h => by
      rw [aopsD_frame all bf l _ _ _ _ _ _ _ h t fun q hq => ht q (List.mem_cons_of_mem _ hq), putE_ne (ht o (List.mem_cons_self ..))]
    simp only [aopsD] at h
    split at h
    · split at h
      · split at h
        · split at h
          · exact ih h
          · cases h
        · cases h
      · split at h
        · split at h
          · exact ih h
          · cases h
        · cases h
      · split at h
        · exact ih h
        · cases h
      · split at h
        · exact ih h
        · cases h
    · exact ih h
theorem aopsDP_real (hC : CSoundP P gl pan C) (all : List Oper) (bf : List Nat) {kk : Env → Heap → Option (Value × Heap)} : ∀ (l : List Oper) (i : Nat) (acts : List (Nat × Bool × Heap × Heap)) (reads : List (Nat × Option Nat)) {m : Mp} {env : Env} {H : Heap} {a : Act} {w : World},
    GOK P gl m → ERel m env a → HRel m H w → MLow m H.n → (l.all fun o => o.op.operands.toList.all (okOpd P gl)) = true → l.all (freeOf pan) = true → a.tmps.size = N →
    aopsDK realP P C N all bf l i acts reads env H kk = aopsDK real P C N all bf l i acts reads env H kk
  | [], _, _, _, _, _, _, _, _, _, _, _, _, _, _, _ => rfl
  | o :: l, i, acts, reads, m, env, H, a, w, hg, hE, hr, hlow, hok, hfr, hN => by
    simp only [List.all_cons, Bool.and_eq_true] at hok hfr
    have step : ∀ {k1 k2 : Value → Heap → Option (Value × Heap)}, (∀ (v : Value) (H' : Heap) (m' : Mp) (a' : Act) (w' : World), GOK P gl m' → ERel m' (putE N env o.dst v) a' → HRel m' H' w' → MLow m' H'.n → a'.tmps.size = N → k1 v H' = k2 v H') →
        bndP (opK P C all o env H) k1 = bnd (opK P C all o env H) k2 := fun {k1 k2} hk => by
      rw [opK_eq]
      by_cases hw : wantedE all o env = true
      · rw [if_pos hw]
        cases hv : aop P C env o.op H with
        | none => rfl
        | some p =>
          obtain ⟨v, H1⟩ := p
          cases hpv : isP v with
          | true =>
            obtain ⟨t, u, f, args, tys, g, first, captured, _, _, ho, hf, hpg, _⟩ := aopP_pan hC hg hE hr hlow hok.1 hv hpv
            have := hfr.1
            simp only [freeOf, ho] at this
            cases f <;> simp only at this <;> first | (cases this; done) | skip
            rename_i g'
            simp only [ev, Value.func.injEq, Fn.func.injEq] at hf
            rw [hf.1, hpg] at this
            cases this
          | false =>
            have := aopP_norm (Q := fun _ _ _ => False) hC hg hE hr hlow hok.1 hv hpv
            obtain ⟨a', w', m', v', ha, hvr, hs⟩ := wp_elim this
            have hle := hs.mle hlow
            simp only [bndP, bnd, hpv]
            exact hk v H1 m' a' w' (hg.mono hle) (by rw [ha]; exact ERel.put (hE.mono hle) hvr hN) hs.rel (hs.keepLow hlow) (by rw [ha, put_size]; exact hN)
      · rw [if_neg hw]
        exact hk undef H m (a.put o.dst undef) w hg (ERel.put hE VRel.undef hN) hr hlow (by rw [put_size]; exact hN)
    simp only [aopsDK, realP_b, realP_c, real_b, real_c]
    split
    · congr 1
      exact step fun v H' m' a' w' h1 h2 h3 h4 h5 => aopsDP_real hC all bf l _ _ _ h1 h2 h3 h4 hok.2 hfr.2 h5
    · exact step fun v H' m' a' w' h1 h2 h3 h4 h5 => by
        congr 1
        exact aopsDP_real hC all bf l _ _ _ h1 h2 h3 h4 hok.2 hfr.2 h5
    · exact step fun v H' m' a' w' h1 h2 h3 h4 h5 => aopsDP_real hC all bf l _ _ _ h1 h2 h3 h4 hok.2 hfr.2 h5
    · cases hpl : plainOf o with
      | some x =>
        simp only
        have := aop_sound (Q := fun _ _ _ => False) (cut0_sound hC) hg hE hr hlow hok.1 (plain_eq (P := P) (C := cut0 C) (all := all) hpl env H).2.1
        obtain ⟨a', w', m', v', ha, hvr, hs⟩ := wp_elim this
        have hle := hs.mle hlow
        exact aopsDP_real hC all bf l _ _ _ (hg.mono hle) (a := a') (w := w') (by rw [ha]; exact ERel.put (hE.mono hle) hvr hN) hs.rel (hs.keepLow hlow) hok.2 hfr.2 (by rw [ha, put_size]; exact hN)
      | none =>
        simp only
        exact step fun v H' m' a' w' h1 h2 h3 h4 h5 => aopsDP_real hC all bf l _ _ _ h1 h2 h3 h4 hok.2 hfr.2 h5

def wr : Code → Tmp → Bool
  | .region _ ops _, t => ops.toList.any fun o => o.dst == some t
  | .seq a b, t => wr a t || wr b t
  | .cond _ a b, t => wr a t || wr b t
  | .block _ b, t => wr b t
  | .loop b, t => wr b t
  | .scope b, t => wr b t
  | _, _ => false
def panOk (pan : FuncId → Bool) : Code → Bool
  | .region _ ops draw => !draw || ops.toList.all (freeOf pan)
  | .seq a b => panOk pan a && panOk pan b
  | .cond _ a b => panOk pan a && panOk pan b
  | .block _ b => panOk pan b
  | .loop b => panOk pan b
  | .scope b => panOk pan b
  | _ => true
def PostP (m : Mp) (H : Heap) (w : World) (N : Nat) (d : List Deferred) (env : Env) (c : Code) (kk : Kont (Value × Heap)) (r : Value × Heap) : Exit → Act → World → Prop := fun x a' w' =>
  (∃ e env' H' m', x = exOf e ∧ kk e env' H' = some r ∧ ERel m' env' a' ∧ Step m H w m' H' w' ∧ a'.tmps.size = N ∧ a'.defers = d ∧ ∀ t, wr c t = false → env' t = env t) ∨
  ∃ t u m' env', r.1 = .iface t u ∧ flat1 u = true ∧ x = .panic [entry t u] ∧ ERel m' env' a' ∧ Step m H w m' r.2 w' ∧ a'.tmps.size = N ∧ a'.defers = d ∧ ∀ t, wr c t = false → env' t = env t
theorem wr_region {id : Nat} {ops : Array Oper} {draw : Bool} {t : Tmp} (h : wr (.region id ops draw) t = false) : ∀ o ∈ ops.toList, o.dst ≠ some t := fun o ho he => by
  simp only [wr] at h
  have := List.any_eq_false.1 h o ho
  simp [he] at this
theorem aregionP_sound (hC : CSoundP P gl pan C) (hCM : CMono (cut1 pan C)) (hm : P.follows .mixedOrders = true) {id : Nat} {ops : Array Oper} {draw : Bool} {m : Mp} {env : Env} {H : Heap} {kk : Kont (Value × Heap)} {r : Value × Heap} {a : Act} {w : World}
    (h : aregionK realP P C N ops.toList draw env H (kk .normal) = some r) (hg : GOK P gl m) (hE : ERel m env a) (hr : HRel m H w) (hlow : MLow m H.n) (hok : (ops.toList.all fun o => o.op.operands.toList.all (okOpd P gl)) = true) (hpan : panOk pan (.region id ops draw) = true) (hN : a.tmps.size = N) :
    (Code.region id ops draw).wp P (PostP m H w N a.defers env (.region id ops draw) kk r) a w := by
  cases draw with
  | true =>
    have hfr : ops.toList.all (freeOf pan) = true := by simpa [panOk] using hpan
    have h1 : aregionK realP P C N ops.toList true env H (kk .normal) = aregionK real P C N ops.toList true env H (kk .normal) := by
      unfold aregionK
      rw [if_pos rfl, if_pos rfl]
      split
      · exact aopsDP_real hC _ _ _ _ _ _ hg hE hr hlow hok hfr hN
      · rfl
    rw [h1, aregionK_eq] at h
    simp only [Option.bind_eq_some_iff] at h
    obtain ⟨⟨env', H'⟩, h2, h3⟩ := h
    have h4 : aregion P (cut1 pan C) N ops.toList true env H = some (env', H') := by
      rw [← h2]
      unfold aregion
      rw [if_pos rfl, if_pos rfl]
      split
      · exact aopsD_cut1 _ _ _ _ _ _ _ _ hfr
      · rfl
    have hfm : ∀ t, wr (.region id ops true) t = false → env' t = env t := fun t ht => by
      unfold aregion at h2
      rw [if_pos rfl] at h2
      split at h2
      · exact aopsD_frame _ _ _ _ _ _ _ _ _ _ h2 t (wr_region ht)
      · cases h2
    exact aregion_sound (id := id) (cut1_sound hC) hCM hm h4 hg hE hr hlow hok hN fun m' a' w' q1 q2 q3 q4 => .inl ⟨.normal, env', H', m', rfl, h3, q1, q2, q3, q4, hfm⟩
  | false =>
    refine wp_region ?_
    have h : aopsK realP P C N ops.toList ops.toList env H (kk .normal) = some r := by simpa [aregionK] using h
    have := aopsP_sound (Q := PostP m H w N a.defers env (.region id ops false) kk r) hC ops.toList ops.toList 0 (by simp) h hg hE hr hlow hok hN
      (fun m' env' H' a' w' h1 h2 h3 h4 h5 h6 => .inl ⟨.normal, env', H', m', rfl, h1, h2, h3, h4, h5, fun t ht => h6 t (wr_region ht)⟩)
      (fun t u m' env' a' w' h0 h1 h2 h3 h4 h5 h6 => .inr ⟨t, u, m', env', h0, h1, rfl, h2, h3, h4, h5, fun t ht => h6 t (wr_region ht)⟩)
    simpa [List.range_eq_range'] using this
end

theorem acodeP_sound {P : Program} {gl : Bool} {pan : FuncId → Bool} {C : CallF} {N fuel : Nat} (hC : CSoundP P gl pan C) (hCM : CMono (cut1 pan C)) (hm : P.follows .mixedOrders = true) : ∀ (c : Code) {m : Mp} {env : Env} {H : Heap} {kk : Kont (Value × Heap)} {r : Value × Heap} {a : Act} {w : World},
    acodeK realP P C fuel N c env H kk = some r → GOK P gl m → ERel m env a → HRel m H w → MLow m H.n → okCode P gl c = true → panOk pan c = true → a.tmps.size = N → c.wp P (PostP m H w N a.defers env c kk r) a w := by
  intro c
  induction c with
  | skip =>
    intro m env H kk r a w h hg hE hr hlow hok hpan hN
    exact wp_skip (.inl ⟨.normal, env, H, m, rfl, h, hE, Step.refl hr, hN, rfl, fun _ _ => rfl⟩)
  | exit id =>
    intro m env H kk r a w h hg hE hr hlow hok hpan hN
    exact wp_exit (.inl ⟨.exit id, env, H, m, rfl, h, hE, Step.refl hr, hN, rfl, fun _ _ => rfl⟩)
  | ret =>
    intro m env H kk r a w h hg hE hr hlow hok hpan hN
    exact wp_ret (.inl ⟨.ret, env, H, m, rfl, h, hE, Step.refl hr, hN, rfl, fun _ _ => rfl⟩)
  | label l =>
    intro m env H kk r a w h hg hE hr hlow hok hpan hN
    exact wp_label (.inl ⟨.normal, env, H, m, rfl, h, hE, Step.refl hr, hN, rfl, fun _ _ => rfl⟩)
  | region id ops draw =>
    intro m env H kk r a w h hg hE hr hlow hok hpan hN
    exact aregionP_sound hC hCM hm (by simpa [acodeK] using h) hg hE hr hlow (by simpa [okCode] using hok) hpan hN
  | seq x y ihx ihy =>
    intro m env H kk r a w h hg hE hr hlow hok hpan hN
    simp only [okCode, Bool.and_eq_true] at hok
    simp only [panOk, Bool.and_eq_true] at hpan
    simp only [acodeK] at h
    refine wp_seq (Code.wp_mono (fun z a' w' hp => ?_) (ihx h hg hE hr hlow hok.1 hpan.1 hN))
    rcases hp with ⟨e, env', H', m', rfl, h1, q1, q2, q3, q4, q5⟩ | ⟨t, u, m', env', h0, hu, rfl, q1, q2, q3, q4, q5⟩
    · have hle := q2.mle hlow
      cases e with
      | normal =>
        refine Code.wp_mono (fun z a2 w2 hp => ?_) (ihy h1 (hg.mono hle) q1 q2.rel (q2.keepLow hlow) hok.2 hpan.2 q3)
        rcases hp with ⟨e, env2, H2, m2, rfl, h2, r1, r2, r3, r4, r5⟩ | ⟨t, u, m2, env2, h0, hu, rfl, r1, r2, r3, r4, r5⟩
        · exact .inl ⟨e, env2, H2, m2, rfl, h2, r1, q2.trans r2, r3, r4.trans q4, fun t ht => by simp only [wr, Bool.or_eq_false_iff] at ht; rw [r5 t ht.2, q5 t ht.1]⟩
        · exact .inr ⟨t, u, m2, env2, h0, hu, rfl, r1, q2.trans r2, r3, r4.trans q4, fun t ht => by simp only [wr, Bool.or_eq_false_iff] at ht; rw [r5 t ht.2, q5 t ht.1]⟩
      | exit id => exact .inl ⟨.exit id, env', H', m', rfl, h1, q1, q2, q3, q4, fun t ht => by simp only [wr, Bool.or_eq_false_iff] at ht; exact q5 t ht.1⟩
      | ret => exact .inl ⟨.ret, env', H', m', rfl, h1, q1, q2, q3, q4, fun t ht => by simp only [wr, Bool.or_eq_false_iff] at ht; exact q5 t ht.1⟩
    · exact .inr ⟨t, u, m', env', h0, hu, rfl, q1, q2, q3, q4, fun t ht => by simp only [wr, Bool.or_eq_false_iff] at ht; exact q5 t ht.1⟩
  | cond c x y ihx ihy =>
    intro m env H kk r a w h hg hE hr hlow hok hpan hN
    simp only [okCode, Bool.and_eq_true] at hok
    simp only [panOk, Bool.and_eq_true] at hpan
    simp only [acodeK, realP_i, iff] at h
    have hc := ev_sound hE hg hok.1.1
    have up : ∀ {z a' w'} {b : Bool}, PostP m H w N a.defers env (if b then x else y) kk r z a' w' → PostP m H w N a.defers env (.cond c x y) kk r z a' w' := fun {z a' w' b} hp => by
      rcases hp with ⟨e, env', H', m', q0, h1, q1, q2, q3, q4, q5⟩ | ⟨t, u, m', env', h0, hu, q0, q1, q2, q3, q4, q5⟩
      · exact .inl ⟨e, env', H', m', q0, h1, q1, q2, q3, q4, fun t ht => by simp only [wr, Bool.or_eq_false_iff] at ht; cases b; exact q5 t ht.2; exact q5 t ht.1⟩
      · exact .inr ⟨t, u, m', env', h0, hu, q0, q1, q2, q3, q4, fun t ht => by simp only [wr, Bool.or_eq_false_iff] at ht; cases b; exact q5 t ht.2; exact q5 t ht.1⟩
    split at h
    · rename_i ht
      rw [ht] at hc
      exact wp_cond_true hc.bool_inv (Code.wp_mono (fun _ _ _ hp => up (b := true) hp) (ihx h hg hE hr hlow hok.1.2 hpan.1 hN))
    · rename_i ht
      rw [ht] at hc
      exact wp_cond_false hc.bool_inv (Code.wp_mono (fun _ _ _ hp => up (b := false) hp) (ihy h hg hE hr hlow hok.2 hpan.2 hN))
    · cases h
  | block id body ih =>
    intro m env H kk r a w h hg hE hr hlow hok hpan hN
    simp only [okCode] at hok
    simp only [panOk] at hpan
    simp only [acodeK] at h
    refine wp_block (Code.wp_mono (fun z a' w' hp => ?_) (ih h hg hE hr hlow hok hpan hN))
    rcases hp with ⟨e, env', H', m', rfl, h1, q⟩ | ⟨t, u, m', env', h0, hu, rfl, q⟩
    · cases e with
      | normal => exact .inl ⟨.normal, env', H', m', rfl, h1, q⟩
      | ret => exact .inl ⟨.ret, env', H', m', rfl, h1, q⟩
      | exit i =>
        simp only [onBlock] at h1
        simp only [exOf, Exit.inBlock]
        split at h1
        · rename_i hi
          rw [if_pos hi]; exact .inl ⟨.normal, env', H', m', rfl, h1, q⟩
        · rename_i hi
          rw [if_neg hi]; exact .inl ⟨.exit i, env', H', m', rfl, h1, q⟩
    · exact .inr ⟨t, u, m', env', h0, hu, rfl, q⟩
  | loop body ih =>
    intro m env H kk r a w h hg hE hr hlow hok hpan hN
    simp only [okCode] at hok
    simp only [panOk] at hpan
    simp only [acodeK] at h
    have key : ∀ (n : Nat) {m : Mp} {env : Env} {H : Heap} {a : Act} {w : World}, aloopK (acodeK realP P C fuel N body) n env H kk = some r → GOK P gl m → ERel m env a → HRel m H w → MLow m H.n → a.tmps.size = N →
        Code.rounds P body (PostP m H w N a.defers env (.loop body) kk r) n a w := by
      intro n
      induction n with
      | zero => intro m env H a w h; cases h
      | succ n ihn =>
        intro m env H a w h hg hE hr hlow hN
        simp only [aloopK] at h
        rw [rounds_succ]
        refine Code.wp_mono (fun z a' w' hp => ?_) (ih h hg hE hr hlow hok hpan hN)
        rcases hp with ⟨e, env', H', m', rfl, h1, q1, q2, q3, q4, q5⟩ | ⟨t, u, m', env', h0, hu, rfl, q⟩
        · have hle := q2.mle hlow
          cases e with
          | normal =>
            refine rounds_mono (fun z a2 w2 hp => ?_) n _ _ (ihn h1 (hg.mono hle) q1 q2.rel (q2.keepLow hlow) q3)
            rcases hp with ⟨e, env2, H2, m2, rfl, h2, r1, r2, r3, r4, r5⟩ | ⟨t, u, m2, env2, h0, hu, rfl, r1, r2, r3, r4, r5⟩
            · exact .inl ⟨e, env2, H2, m2, rfl, h2, r1, q2.trans r2, r3, r4.trans q4, fun t ht => by rw [r5 t ht, q5 t ht]⟩
            · exact .inr ⟨t, u, m2, env2, h0, hu, rfl, r1, q2.trans r2, r3, r4.trans q4, fun t ht => by rw [r5 t ht, q5 t ht]⟩
          | exit id => exact .inl ⟨.exit id, env', H', m', rfl, h1, q1, q2, q3, q4, q5⟩
          | ret => exact .inl ⟨.ret, env', H', m', rfl, h1, q1, q2, q3, q4, q5⟩
        · exact .inr ⟨t, u, m', env', h0, hu, rfl, q⟩
    exact wp_loop_rounds fuel (key fuel h hg hE hr hlow hN)
  | scope body ih =>
    intro m env H kk r a w h hg hE hr hlow hok hpan hN
    simp only [okCode] at hok
    simp only [panOk] at hpan
    simp only [acodeK] at h
    refine wp_scope_straight (Code.wp_mono (fun z a' w' hp => ?_) (ih h hg hE hr hlow hok hpan hN))
    rcases hp with ⟨e, env', H', m', rfl, q⟩ | ⟨t, u, m', env', h0, hu, rfl, q⟩
    · cases e with
      | normal => exact .inl ⟨.normal, env', H', m', rfl, q⟩
      | exit id => exact .inl ⟨.exit id, env', H', m', rfl, q⟩
      | ret => exact .inl ⟨.ret, env', H', m', rfl, q⟩
    · exact .inr ⟨t, u, m', env', h0, hu, rfl, q⟩
  | _ => intro m env H kk r a w h; simp only [acodeK] at h; cases h
end Go.Eng
