/- One operation. -/
import Derived.Test.YtiflkdemlhpibaaDoorEnhGa
import Derived.Calls
set_option linter.unusedVariables false
namespace Go.Eng
open Go

def GOK (P : Program) (gl : Bool) (m : Mp) : Prop := gl = true → ∀ g, g < P.globals.size → m g = some ⟨g, 0, 0⟩
/-- What a call comes to on the other side. -/
def CSound (P : Program) (gl : Bool) (C : CallF) : Prop := ∀ (f : FuncId) (args : List Value) (H : Heap) (v : Value) (H' : Heap), C f args H = some (v, H') →
  ∀ (m : Mp) (w : World) (args' : List Value), LRel m args args' → HRel m H w → MLow m H.n → GOK P gl m →
    ((callFunc f args'.toArray).run P w = .ok (.enter f args'.toArray) w ∧
    Calls P f args'.toArray w fun e w' => ∃ m' v', e = .returned v' ∧ VRel m' v v' ∧ Step m H w m' H' w') ∨
    ∃ m' v' w', (callFunc f args'.toArray).run P w = .ok (.value v') w' ∧ VRel m' v v' ∧ Step m H w m' H' w'

def ERel (m : Mp) (env : Env) (a : Act) : Prop := ∀ t, VRel m (env t) (a.tmps.getD t undef)

theorem ev_sound {P : Program} {gl : Bool} {m : Mp} {env : Env} {a : Act} (hE : ERel m env a) (hg : GOK P gl m) {x : Operand} (h : okOpd P gl x = true) : VRel m (ev env x) (a.eval x) := by
  cases x with
  | tmp t => exact hE t
  | const v => exact VRel.ofFlat (v := v) (by simpa [okOpd] using h)
  | global g =>
    simp only [okOpd, Bool.and_eq_true, decide_eq_true_eq] at h
    exact VRel.ptr (hg h.1 g h.2)
  | func f => exact .func rfl rfl (by simp) (by simp)

theorem evs_sound {P : Program} {gl : Bool} {m : Mp} {env : Env} {a : Act} (hE : ERel m env a) (hg : GOK P gl m) {xs : List Operand} (h : xs.all (okOpd P gl) = true) : LRel m (xs.map (ev env)) (xs.map a.eval) := by
  induction xs with
  | nil => exact LRel.nil
  | cons x xs ih =>
    simp only [List.all_cons, Bool.and_eq_true] at h
    exact LRel.cons (ev_sound hE hg h.1) (ih h.2)
theorem evs' {m : Mp} {env : Env} {a : Act} {xs : List Operand} (h : ∀ x ∈ xs, VRel m (ev env x) (a.eval x)) : LRel m (xs.map (ev env)) (xs.map a.eval) := by
  induction xs with
  | nil => exact LRel.nil
  | cons x xs ih => exact LRel.cons (h x (by simp)) (ih fun y hy => h y (by simp [hy]))
theorem evo' {m : Mp} {env : Env} {a : Act} {x : Option Operand} (h : ∀ y ∈ x.toArray, VRel m (ev env y) (a.eval y)) : ORel m (x.map (ev env)) (x.map a.eval) := by
  cases x with
  | none => trivial
  | some x => exact h x (by simp)
theorem evo_sound {P : Program} {gl : Bool} {m : Mp} {env : Env} {a : Act} (hE : ERel m env a) (hg : GOK P gl m) {x : Option Operand} (h : x.toList.all (okOpd P gl) = true) : ORel m (x.map (ev env)) (x.map a.eval) := by
  cases x with
  | none => trivial
  | some x => exact ev_sound hE hg (by simpa using h)

section
variable {P : Program} {m : Mp} {H H' : Heap} {w : World} {a : Act} {o : Oper} {v : Value} {Q : Exit → Act → World → Prop}
theorem wp_value {m' : Mp} {v' : Value} {w' : World} (h : (execOp a.eval o).run P w = .ok (.value v') w') (hv : VRel m' v v') (hs : Step m H w m' H' w') :
    o.wp P a w (fun a' w' => ∃ m' v', a' = a.put o.dst v' ∧ VRel m' v v' ∧ Step m H w m' H' w') Q := by
  unfold Oper.wp
  rw [h]
  exact ⟨m', v', rfl, hv, hs⟩
theorem wp_skip' {m' : Mp} {w' : World} (h : (execOp a.eval o).run P w = .ok .skip w') (hv : v = undef) (hs : Step m H w m' H' w') :
    o.wp P a w (fun a' w' => ∃ m' v', a' = a.put o.dst v' ∧ VRel m' v v' ∧ Step m H w m' H' w') Q := by
  subst hv
  unfold Oper.wp
  rw [h]
  exact ⟨m', undef, rfl, VRel.undef, hs⟩
theorem wp_sem {m' : Mp} {v' : Value} {w' : World} {s : Sem Value} (he : execOp a.eval o = (do pure (.value (← s)))) (h : s.run P w = .ok v' w') (hv : VRel m' v v') (hs : Step m H w m' H' w') :
    o.wp P a w (fun a' w' => ∃ m' v', a' = a.put o.dst v' ∧ VRel m' v v' ∧ Step m H w m' H' w') Q :=
  wp_value (by rw [he]; simp [h]) hv hs
/-- An operation that makes a value of the memory as it is. -/
theorem wp_pure {v' : Value} {s : Sem Value} (hr : HRel m H w) (he : execOp a.eval o = (do pure (.value (← s)))) (h : s.run P w = .ok v' w) (hv : VRel m v v') :
    o.wp P a w (fun a' w' => ∃ m' v', a' = a.put o.dst v' ∧ VRel m' v v' ∧ Step m H w m' H w') Q :=
  wp_value (by rw [he]; simp [h]) hv (Step.refl hr)
end

theorem aop_sound' {P : Program} {gl : Bool} {C : CallF} {m : Mp} {H H' : Heap} {w : World} {env : Env} {a : Act} {o : Oper} {v : Value} {Q : Exit → Act → World → Prop} (hC : CSound P gl C) (hg : GOK P gl m) (hE : ∀ x ∈ o.op.operands, VRel m (ev env x) (a.eval x))
    (hr : HRel m H w) (hl : MLow m H.n) (h : aop P C env o.op H = some (v, H')) :
    o.wp P a w (fun a' w' => ∃ m' v', a' = a.put o.dst v' ∧ VRel m' v v' ∧ Step m H w m' H' w') Q := by
  obtain ⟨dst, op, type, pos, after, guard⟩ := o
  simp only at h hE
  have up_inv : ∀ {x : Option Value} {H0 H1 : Heap} {v : Value}, up x H0 = some (v, H1) → x = some v ∧ H1 = H0 := fun {x H0 H1 v} h => by
    unfold up at h
    split at h
    · simp only [Option.some.injEq, Prod.mk.injEq] at h; exact ⟨by rw [h.1], h.2.symm⟩
    · cases h
  cases op <;> simp only [aop] at h
  case move x =>
    simp only [Option.some.injEq, Prod.mk.injEq] at h
    obtain ⟨rfl, rfl⟩ := h
    exact wp_value (v' := a.eval x) (w' := w) (by simp [execOp]) (hE x (by simp [Op.operands])) (Step.refl hr)
  case assign x =>
    simp only [Option.some.injEq, Prod.mk.injEq] at h
    obtain ⟨rfl, rfl⟩ := h
    exact wp_value (v' := a.eval x) (w' := w) (by simp [execOp]) (hE x (by simp [Op.operands])) (Step.refl hr)
  case pick c x y =>
    have hc := hE c (by simp [Op.operands])
    have hx := hE x (by simp [Op.operands])
    have hy := hE y (by simp [Op.operands])
    split at h
    case h_2 => cases h
    rename_i t ht
    simp only [Option.some.injEq, Prod.mk.injEq] at h
    obtain ⟨rfl, rfl⟩ := h
    rw [ht] at hc
    have hc' := hc.bool_inv
    refine wp_value (v' := if t then a.eval x else a.eval y) (w' := w) (by simp [execOp, hc', asBool]) ?_ (Step.refl hr)
    cases t
    · exact hy
    · exact hx
  case alloc e =>
    split at h
    case h_2 => cases h
    rename_i z hz
    obtain ⟨m', v', w', q1, q2, q3⟩ := newV_sound (P := P) (t := e) hr hl (VRel.ofFlat (zeroOf_inv hz).2).cells h
    refine wp_sem (s := Instr.alloc e true (.tuple #[])) (by simp [execOp]) ?_ q2 q3
    simp only [Array.toArray_toList] at q1
    simp [Instr.alloc, run_zero hz, newVar] at q1 ⊢
    exact q1
  case box e x =>
    have hx := hE x (by simp [Op.operands])
    obtain ⟨m', v', w', q1, q2, q3⟩ := newV_sound (P := P) (t := e) hr hl hx.cells h
    refine wp_sem (s := Instr.box e (a.eval x)) (by simp [execOp]) ?_ q2 q3
    simp only [Array.toArray_toList] at q1
    simp [Instr.box, newVar] at q1 ⊢
    exact q1
  case build t ps =>
    split at h
    case h_2 => cases h
    rename_i z pl hz hp
    split at h
    case h_2 => cases h
    rename_i cs hc
    simp only [Option.some.injEq, Prod.mk.injEq] at h
    obtain ⟨rfl, rfl⟩ := h
    have he := evs' (xs := ps.toList.map (·.2)) (fun x hx => hE x (by simpa [Op.operands] using hx))
    obtain ⟨v', q1, q2⟩ := build_sound (P := P) (m := m) (w := w) (t := t) (ps := ps.toList.map fun x => (x.1, ev env x.2)) (ps' := ps.toList.map fun x => (x.1, a.eval x.2)) (by simp [List.map_map]) (by simpa [List.map_map, Function.comp_def] using he) hz (zeroOf_inv hz).2 hp hc
    refine wp_sem (s := Instr.build t (ps.map fun x => (x.1, a.eval x.2))) (by simp [execOp]) ?_ q2 (Step.refl hr)
    have : (ps.toList.map fun x => (x.1, a.eval x.2)).toArray = ps.map fun x => (x.1, a.eval x.2) := by apply Array.ext'; simp
    rw [← this]; exact q1
  case buildSlice t len ps =>
    split at h
    case h_2 => cases h
    rename_i e hu
    split at h
    case h_2 => cases h
    rename_i sz z hs hz
    split at h
    case isFalse => cases h
    rename_i hc
    split at h
    case h_2 => cases h
    rename_i cs hf
    have he := evs' (xs := ps.toList.map (·.2)) (fun x hx => hE x (by simpa [Op.operands] using hx))
    obtain ⟨m', v', w', q1, q2, q3⟩ := buildSlice_sound (P := P) (m := m) (w := w) (t := t) (len := len) (ps := ps.toList.map fun x => (x.1, ev env x.2)) (ps' := ps.toList.map fun x => (x.1, a.eval x.2)) hr hl (by simp [List.map_map]) (by simpa [List.map_map, Function.comp_def] using he)
      hu hs hz (zeroOf_inv hz).2 hc.2.1 hc.2.2 hc.1 (by simpa [List.map_map, Function.comp_def] using hf) h
    refine wp_sem (s := Instr.buildSlice t len (ps.map fun x => (x.1, a.eval x.2))) (by simp [execOp]) ?_ q2 q3
    have : (ps.toList.map fun x => (x.1, a.eval x.2)).toArray = ps.map fun x => (x.1, a.eval x.2) := by apply Array.ext'; simp
    rw [← this]; exact q1
  case load t x =>
    have hx := hE x (by simp [Op.operands])
    split at h
    · rename_i k ha hk
      obtain ⟨rfl, v', q1, q2⟩ := ldA_sound (P := P) hr hx h ha hk
      exact wp_sem (s := Instr.loadAt t (a.eval x)) (by simp [execOp]) q1 q2 (Step.refl hr)
    · rename_i ha
      obtain ⟨rfl, v', q1, q2⟩ := ldC_sound (P := P) hr hx h ha
      exact wp_sem (s := Instr.loadAt t (a.eval x)) (by simp [execOp]) q1 q2 (Step.refl hr)
    · cases h
  case store t x y =>
    have hx := hE x (by simp [Op.operands])
    have hy := hE y (by simp [Op.operands])
    split at h
    case h_2 => cases h
    rename_i k hk
    obtain ⟨rfl, w', q1, q2⟩ := stV_sound (P := P) hr hx hy hk h
    exact wp_skip' (by simp [execOp, q1]) rfl q2
  case nilCheck x =>
    have hx := hE x (by simp [Op.operands])
    split at h
    · rename_i p hp
      simp only [Option.some.injEq, Prod.mk.injEq] at h
      obtain ⟨rfl, rfl⟩ := h
      rw [hp] at hx
      have : ∃ a', a.eval x = .pointer (some a') := by
        generalize a.eval x = y at hx
        cases hx with
        | flat hf => simp [flat1] at hf
        | ptr => exact ⟨_, rfl⟩
      obtain ⟨a', ha'⟩ := this
      rw [ha'] at hx
      exact wp_value (v' := .pointer (some a')) (w' := w) (by simp [execOp, ha']) hx (Step.refl hr)
    · rename_i f c d hp
      simp only [Option.some.injEq, Prod.mk.injEq] at h
      obtain ⟨rfl, rfl⟩ := h
      rw [hp] at hx
      have : ∃ c' d', a.eval x = .func (.func f) c' d' := by
        generalize a.eval x = y at hx
        cases hx with
        | flat hf => simp [flat1] at hf
        | func => exact ⟨_, _, rfl⟩
      obtain ⟨c', d', ha'⟩ := this
      rw [ha'] at hx
      exact wp_value (v' := .func (.func f) c' d') (w' := w) (by simp [execOp, ha']) hx (Step.refl hr)
    · cases h
  case binOp op t x y yt =>
    obtain ⟨h2, rfl⟩ := up_inv h
    obtain ⟨q1, q2⟩ := binB_sound (w := w) (xo := x) (yo := y) (hE x (by simp [Op.operands])) (hE y (by simp [Op.operands])) h2
    exact wp_sem (s := do eqGuard op t x y (a.eval x) (a.eval y); binOp op t (a.eval x) (a.eval y)) (by simp [execOp]) q1 q2 (Step.refl hr)
  case unOp op t x =>
    have hx := hE x (by simp [Op.operands])
    obtain ⟨h2, rfl⟩ := up_inv h
    obtain ⟨q1, q2⟩ := unB_sound (P := P) (w := w) hx h2
    exact wp_sem (s := Op.unary op (a.eval x)) (by simp [execOp]) q1 q2 (Step.refl hr)
  case convert s d x =>
    have hx := hE x (by simp [Op.operands])
    unfold cnvOf at h
    split at h
    · rename_i k0 k hs hd
      simp only [cnv] at h
      split at h
      case h_2 => cases h
      rename_i k1 n hn
      simp only [Option.some.injEq, Prod.mk.injEq] at h
      obtain ⟨rfl, rfl⟩ := h
      rw [hn] at hx
      have := hx.int_inv
      exact wp_sem (v' := .int k (k.wrap n)) (s := convert s d (a.eval x)) (by simp [execOp]) (by simp [convert, run_underlying hs, run_underlying hd, this, Conv.intToInt]) (.flat rfl) (Step.refl hr)
    · rename_i hs hd
      simp only [cnv] at h
      split at h
      case h_2 => cases h
      rename_i n hn
      simp only [Option.some.injEq, Prod.mk.injEq] at h
      obtain ⟨rfl, rfl⟩ := h
      rw [hn] at hx
      have := hx.string_inv
      exact wp_sem (v' := .string n) (s := convert s d (a.eval x)) (by simp [execOp]) (by simp [convert, run_underlying hs, run_underlying hd, this]) (.flat rfl) (Step.refl hr)
    · rename_i k0 hs hd
      simp only [cnv] at h
      split at h
      case h_2 => cases h
      rename_i k1 n hn
      simp only [Option.some.injEq, Prod.mk.injEq] at h
      obtain ⟨rfl, rfl⟩ := h
      rw [hn] at hx
      have := hx.int_inv
      exact wp_sem (v' := .string (Utf8.encode n)) (s := convert s d (a.eval x)) (by simp [execOp]) (by simp [convert, run_underlying hs, run_underlying hd, this, Conv.intToString]) (.flat rfl) (Step.refl hr)
    · rename_i e hs hd
      split at h
      · rename_i he
        obtain ⟨rfl, q1, q2⟩ := toStr_sound (P := P) (src := s) (dst := d) hr hx (by simpa [cnv] using h) hs he hd
        exact wp_sem (s := convert s d (a.eval x)) (by simp [execOp]) q1 q2 (Step.refl hr)
      · simp [cnv] at h
    · rename_i e hs hd
      split at h
      · rename_i he
        obtain ⟨m', v', w', q1, q2, q3⟩ := ofStr_sound (P := P) (src := s) (dst := d) hr hl hx (by simpa [cnv] using h) hs he hd
        exact wp_sem (s := convert s d (a.eval x)) (by simp [execOp]) q1 q2 q3
      · simp [cnv] at h
    · rename_i e e2 hs hd
      split at h
      · rename_i hsd
        split at h
        · rename_i he
          subst hsd
          obtain ⟨v', w', q1, q2, q3⟩ := mark_sound (P := P) (t := s) hr hx (by simpa [cnv] using h) hs he
          exact wp_sem (s := convert s s (a.eval x)) (by simp [execOp]) q1 q2 q3
        · simp [cnv] at h
      · simp [cnv] at h
    · simp [cnv] at h
  case makeFunc fn first captured =>
    cases fn <;> simp only [aop] at h <;> first | (cases h; done) | skip
    rename_i f
    simp only [Option.some.injEq, Prod.mk.injEq] at h
    obtain ⟨rfl, rfl⟩ := h
    have h1 := evs' (xs := first.toList) (fun x hx => hE x (by simp [Op.operands]; exact .inl (by simpa using hx)))
    have h2 := evs' (xs := captured.toList) (fun x hx => hE x (by simp [Op.operands]; exact .inr (by simpa using hx)))
    refine wp_value (v' := .func (.func f) (first.map a.eval) (captured.map a.eval)) (w' := w) (by simp [execOp, Instr.makeFunc]) ?_ (Step.refl hr)
    have g1 : LRel m (first.map (ev env)).toList (first.map a.eval).toList := by simpa using h1
    have g2 : LRel m (captured.map (ev env)).toList (captured.map a.eval).toList := by simpa using h2
    exact .func g1.1 g2.1 g1.2 g2.2
  case makeSlice t l c =>
    have hl1 := hE l (by simp [Op.operands])
    have hc1 := hE c (by simp [Op.operands])
    split at h
    case h_2 => cases h
    rename_i e n c' hu hn hm
    split at h
    case h_2 => cases h
    rename_i z sz by_ hz hs hb
    split at h
    case isFalse => cases h
    rename_i hc
    obtain ⟨c1, c2, c3, c4, c5, c6⟩ := hc
    rw [hn] at hl1
    rw [hm] at hc1
    obtain ⟨m', v', w', q1, q2, q3⟩ := makeSlice_sound (P := P) hr hl hu hs hz hb (zeroOf_inv hz).2 c4 c1 c2 c3 c5 c6 h
    exact wp_sem (s := Instr.makeSlice t (a.eval l) (a.eval c)) (by simp [execOp]) (by rw [hl1.int_inv, hc1.int_inv]; exact q1) q2 q3
  case slice t x lo hi mx =>
    have hx := hE x (by simp [Op.operands])
    have r1 := evo' (m := m) (env := env) (a := a) (x := lo) (fun y hy => hE y (by simp [Op.operands] at hy ⊢; simp [hy]))
    have r2 := evo' (m := m) (env := env) (a := a) (x := hi) (fun y hy => hE y (by simp [Op.operands] at hy ⊢; simp [hy]))
    have r3 := evo' (m := m) (env := env) (a := a) (x := mx) (fun y hy => hE y (by simp [Op.operands] at hy ⊢; simp [hy]))
    have hex : execOp a.eval ⟨dst, .slice t x lo hi mx, type, pos, after, guard⟩ = (do pure (.value (← Instr.sliceAt t (a.eval x) (lo.map a.eval) (hi.map a.eval) (mx.map a.eval)))) := by simp [execOp]
    split at h
    · rename_i hu
      split at h
      case isFalse => cases h
      rename_i hmx
      obtain ⟨h2, rfl⟩ := up_inv h
      obtain ⟨q1, q2⟩ := slcStr_sound (P := P) (w := w) hx r1 r2 hu h2
      have : mx = none := by simpa using hmx
      subst this
      exact wp_sem hex q1 q2 (Step.refl hr)
    · rename_i e hu
      split at h
      case h_2 => cases h
      rename_i sz hs
      obtain ⟨h2, rfl⟩ := up_inv h
      obtain ⟨v', q1, q2⟩ := slcS_sound (P := P) (w := w) hx r1 r2 r3 hu hs h2
      exact wp_sem hex q1 q2 (Step.refl hr)
    · rename_i n e hu
      split at h
      case h_2 => cases h
      rename_i sz hs
      obtain ⟨h2, rfl⟩ := up_inv h
      obtain ⟨v', q1, q2⟩ := slcA_sound (P := P) (w := w) hx r1 r2 r3 hu hs h2
      exact wp_sem hex q1 q2 (Step.refl hr)
    · cases h
  case fieldAddr s x f =>
    have hx := hE x (by simp [Op.operands])
    split at h
    case h_2 => cases h
    rename_i fs hu
    split at h
    case h_2 => cases h
    rename_i fl hf
    split at h
    case h_2 => cases h
    rename_i k hk
    obtain ⟨h2, rfl⟩ := up_inv h
    obtain ⟨v', q1, q2⟩ := fAddr_sound (P := P) (w := w) hx hu hf hk h2
    exact wp_sem (s := Instr.fieldAt s (a.eval x) f) (by simp [execOp]) q1 q2 (Step.refl hr)
  case field s x f =>
    have hx := hE x (by simp [Op.operands])
    split at h
    case h_2 => cases h
    rename_i fs hu
    split at h
    case h_2 => cases h
    rename_i fl hf
    split at h
    case h_2 => cases h
    rename_i ag k ha hk
    obtain ⟨h2, rfl⟩ := up_inv h
    generalize hy : ev env x = y at *
    cases y <;> first | (simp [partV] at h2; done) | skip
    rename_i cs
    obtain ⟨cs', hcs, hlr⟩ := hx.agg_inv
    obtain ⟨v', q1, q2⟩ := partV_sound (P := P) (w := w) hlr ha hk h2
    exact wp_sem (s := Instr.field s (a.eval x) f) (by simp [execOp]) (by rw [hcs]; simp [Instr.field, run_underlying hu, hf, asAgg, q1]) q2 (Step.refl hr)
  case indexAddr t x i =>
    have hx := hE x (by simp [Op.operands])
    have hi := hE i (by simp [Op.operands])
    split at h
    · rename_i len e hu
      split at h
      case h_2 => cases h
      rename_i sz hs
      obtain ⟨h2, rfl⟩ := up_inv h
      obtain ⟨v', q1, q2⟩ := iAddrA_sound (P := P) (w := w) hx hi hu hs h2
      exact wp_sem (s := Instr.indexAt t (a.eval x) (a.eval i)) (by simp [execOp]) q1 q2 (Step.refl hr)
    · rename_i e hu
      split at h
      case h_2 => cases h
      rename_i sz hs
      obtain ⟨h2, rfl⟩ := up_inv h
      obtain ⟨v', q1, q2⟩ := iAddrS_sound (P := P) (w := w) hx hi hu hs h2
      exact wp_sem (s := Instr.indexAt t (a.eval x) (a.eval i)) (by simp [execOp]) q1 q2 (Step.refl hr)
    · cases h
  case index t x i =>
    have hx := hE x (by simp [Op.operands])
    have hi := hE i (by simp [Op.operands])
    split at h
    · rename_i len e hu
      split at h
      case h_2 => cases h
      rename_i ag sz ha hs
      obtain ⟨h2, rfl⟩ := up_inv h
      obtain ⟨v', q1, q2⟩ := idxA_sound (P := P) (w := w) hx hi hu ha hs h2
      exact wp_sem (s := Instr.index t (a.eval x) (a.eval i)) (by simp [execOp]) q1 q2 (Step.refl hr)
    · rename_i hu
      obtain ⟨h2, rfl⟩ := up_inv h
      obtain ⟨q1, q2⟩ := idxS_sound (P := P) (w := w) hx hi hu h2
      exact wp_sem (s := Instr.index t (a.eval x) (a.eval i)) (by simp [execOp]) q1 q2 (Step.refl hr)
    · cases h
  case extract t ix =>
    have hx := hE t (by simp [Op.operands])
    split at h
    case h_2 => cases h
    rename_i vs hvs
    obtain ⟨h2, rfl⟩ := up_inv h
    rw [hvs] at hx
    obtain ⟨cs', hcs, hlr⟩ := hx.tuple_inv
    obtain ⟨v', g1, g2⟩ := hlr.get h2
    rw [Array.getElem?_toList] at g1
    exact wp_sem (s := Instr.extract (a.eval t) ix) (by simp [execOp]) (by rw [hcs]; simp [Instr.extract, g1]) g2 (Step.refl hr)
  case range t x =>
    have hx := hE x (by simp [Op.operands])
    split at h
    case h_2 => cases h
    rename_i hu
    obtain ⟨m', v', w', q1, q2, q3⟩ := rngS_sound hr hl hx hu h
    exact wp_sem (s := Instr.range t (a.eval x)) (by simp [execOp]) q1 q2 q3
  case next x b =>
    have hx := hE x (by simp [Op.operands])
    cases b with
    | false => simp [aop] at h
    | true =>
      simp only [aop] at h
      obtain ⟨w', q1, q2, q3⟩ := nxtS_sound (t := type) hr hx h
      exact wp_sem (s := Instr.next (a.eval x) true type) (by simp [execOp]) q1 q2 q3
  case makeMap t r =>
    have key : ∀ {kt et : TypeId}, P.underlying t = some (.map kt et) → (∀ y, r.map a.eval = some y → ∃ ik n, y = .int ik n) → mkM H = some (v, H') → Oper.wp P ⟨dst, .makeMap t r, type, pos, after, guard⟩ a w (fun a' w' => ∃ m' v', a' = a.put dst v' ∧ VRel m' v v' ∧ Step m H w m' H' w') Q := fun hu hrr h => by
      obtain ⟨m', v', w', q1, q2, q3⟩ := mkM_sound (r := none) hr hl hu hrr h
      exact wp_sem (s := Instr.makeMap t (r.map a.eval)) (by simp [execOp]) q1 q2 q3
    split at h
    · rename_i hu hrn
      exact key hu (fun y hy => by cases r <;> simp at hrn hy) h
    · rename_i kt et ik n hu hrn
      refine key hu (fun y hy => ?_) h
      cases r with
      | none => simp at hy
      | some r =>
        have hx := hE r (by simp [Op.operands])
        simp only [Option.map_some, Option.some.injEq] at hrn hy
        rw [hrn] at hx
        exact ⟨ik, n, by rw [← hy]; exact hx.int_inv⟩
    · cases h
  case lookup t x k ok =>
    have hx := hE x (by simp [Op.operands])
    have hk := hE k (by simp [Op.operands])
    split at h
    case h_2 => cases h
    rename_i kt et hu
    split at h
    case h_2 => cases h
    rename_i d z hd hz
    split at h
    case isFalse => cases h
    rename_i hkb
    have hke := hk.eq_of_flat1 (keyB_flat hkb)
    obtain ⟨rfl, v', q1, q2⟩ := lkM_sound hr hx hkb hu hd hz h
    exact wp_sem (s := Instr.lookup t (a.eval x) (a.eval k) ok) (by simp [execOp]) (by rw [hke]; exact q1) q2 (Step.refl hr)
  case mapUpdate t x k y =>
    have hx := hE x (by simp [Op.operands])
    have hk := hE k (by simp [Op.operands])
    have hy := hE y (by simp [Op.operands])
    split at h
    case h_2 => cases h
    rename_i kt et hu
    split at h
    case h_2 => cases h
    rename_i d hd
    split at h
    case isFalse => cases h
    rename_i hkb
    have hke := hk.eq_of_flat1 (keyB_flat hkb)
    obtain ⟨q0, w', q1, q2⟩ := upM_sound hr hx hkb hy hu hd h
    exact wp_skip' (w' := w') (by simp [execOp, hke, q1]) q0 q2
  case insert t x k y =>
    have hx := hE x (by simp [Op.operands])
    have hk := hE k (by simp [Op.operands])
    have hy := hE y (by simp [Op.operands])
    split at h
    case h_2 => cases h
    rename_i kt et hu
    split at h
    case h_2 => cases h
    rename_i d hd
    split at h
    case isFalse => cases h
    rename_i hkb
    have hke := hk.eq_of_flat1 (keyB_flat hkb)
    obtain ⟨q0, w', q1, q2⟩ := upM_sound hr hx hkb hy hu hd h
    exact wp_skip' (w' := w') (by simp [execOp, hke, q1]) q0 q2
  case call c =>
    obtain ⟨callee, args, argTypes⟩ := c
    cases callee with
    | invoke r n => simp at h
    | value f =>
      simp only at h
      have hf := hE f (by simp [Op.operands, Call.operands])
      have ha := evs' (xs := args.toList) (fun x hx => hE x (by simp [Op.operands, Call.operands]; exact .inr (by simpa using hx)))
      split at h
      case h_2 => cases h
      rename_i g first captured hgv
      rw [hgv] at hf
      have : ∃ c' d', a.eval f = .func (.func g) c' d' ∧ LRel m first.toList c'.toList ∧ LRel m captured.toList d'.toList := by
        generalize a.eval f = y at hf
        cases hf with
        | flat hf => simp [flat1] at hf
        | func h1 h2 h3 h4 => exact ⟨_, _, rfl, ⟨h1, h3⟩, ⟨h2, h4⟩⟩
      obtain ⟨c', d', hy, hl1, hl2⟩ := this
      have harr : (c'.toList ++ args.toList.map a.eval ++ d'.toList).toArray = c' ++ args.map a.eval ++ d' := by apply Array.ext'; simp
      rcases hC g _ H v H' h m w _ ((hl1.append ha).append hl2) hr hl hg with ⟨g1, g2⟩ | ⟨m', v', w', g1, g2, g3⟩
      case inr =>
        rw [harr] at g1
        exact wp_value (v' := v') (w' := w') (by
          simp [execOp, resolve, hy, Deferred.ofValue, invoke] at g1 ⊢
          exact g1) g2 g3
      rw [harr] at g1 g2
      unfold Oper.wp
      have : (execOp a.eval ⟨dst, .call ⟨.value f, args, argTypes⟩, type, pos, after, guard⟩).run P w = .ok (.enter g (c' ++ args.map a.eval ++ d')) w := by
        simp [execOp, resolve, hy, Deferred.ofValue, invoke] at g1 ⊢
        exact g1
      rw [this]
      exact g2.mono fun e w' ⟨m', v', he, hv, hs⟩ => by subst he; exact ⟨m', v', rfl, hv, hs⟩
    | builtin b =>
      simp only at h
      have ha := evs' (xs := args.toList) (fun x hx => hE x (by simp [Op.operands, Call.operands]; simpa using hx))
      unfold builtinB at h
      have hex : ∀ (s : Array Value → Sem Value), builtin b argTypes type (args.map fun | .const _ => true | _ => false) (args.map a.eval) = (do pure (.value (← s (args.map a.eval)))) →
          execOp a.eval ⟨dst, .call ⟨.builtin b, args, argTypes⟩, type, pos, after, guard⟩ = (do pure (.value (← s (args.map a.eval)))) := fun s hs => by
        simp only [execOp, resolve, pure_bind, invoke]
        exact hs
      have hargs : ∀ l', (args.toList.map a.eval) = l' → args.map a.eval = l'.toArray := fun l' hl' => by apply Array.ext'; simpa using hl'
      split at h
      · rename_i x hx
        rw [hx] at ha
        obtain ⟨x', r', hl', hx', hr'⟩ := ha.cases_cons
        obtain rfl := hr'.cases_nil
        split at h
        case h_2 => cases h
        rename_i t ht
        split at h
        · rename_i hmt
          obtain ⟨kt, et, hu⟩ : ∃ kt et, P.underlying t = some (.map kt et) := by
            unfold isMapT at hmt
            split at hmt
            · rename_i kt et hu; exact ⟨kt, et, hu⟩
            · cases hmt
          obtain ⟨rfl, q1, q2⟩ := lenM_sound (P := P) (ty := type) hr hx' ht hu h
          exact wp_sem (hex (fun l => Builtin.len_ argTypes type l) (by rfl)) (by rw [hargs _ hl']; exact q1) q2 (Step.refl hr)
        · obtain ⟨h2, rfl⟩ := up_inv h
          obtain ⟨q1, q2⟩ := lenB_sound (P := P) (w := w) (ty := type) hx' ht h2
          exact wp_sem (hex (fun l => Builtin.len_ argTypes type l) (by rfl)) (by rw [hargs _ hl']; exact q1) q2 (Step.refl hr)
      · rename_i x hx
        rw [hx] at ha
        obtain ⟨x', r', hl', hx', hr'⟩ := ha.cases_cons
        obtain rfl := hr'.cases_nil
        split at h
        case h_2 => cases h
        rename_i t ht
        obtain ⟨h2, rfl⟩ := up_inv h
        obtain ⟨q1, q2⟩ := capB_sound (P := P) (w := w) (ty := type) hx' ht h2
        exact wp_sem (hex (fun l => Builtin.cap_ argTypes type l) (by rfl)) (by rw [hargs _ hl']; exact q1) q2 (Step.refl hr)
      · rename_i s x hx
        rw [hx] at ha
        obtain ⟨s', r', hl', hs', hr'⟩ := ha.cases_cons
        obtain ⟨x', r2, rfl, hx', hr2⟩ := hr'.cases_cons
        obtain rfl := hr2.cases_nil
        split at h
        case h_2 => cases h
        rename_i t ht
        split at h
        case h_2 => cases h
        rename_i e hu
        split at h
        case h_2 => cases h
        rename_i sz by_ z hsz hby hz
        split at h
        case isFalse => cases h
        rename_i hc
        obtain ⟨c1, c2, c3⟩ := hc
        split at h
        · rename_i e2 hu2
          simp only [Option.bind_eq_some_iff] at hu2
          obtain ⟨t2, ht2, hu2⟩ := hu2
          obtain ⟨m', v', w', q1, q2, q3⟩ := app_sound (P := P) (ty := type) hr hl hs' hx' h ht hu hsz hby hz c3 c2 c1 ht2 hu2 (by simp)
          exact wp_sem (hex (fun l => Builtin.append_ argTypes type l) (by rfl)) (by rw [hargs _ hl']; exact q1) q2 q3
        · rename_i hu2
          simp only [Option.bind_eq_some_iff] at hu2
          obtain ⟨t2, ht2, hu2⟩ := hu2
          obtain ⟨m', v', w', q1, q2, q3⟩ := app_sound (P := P) (ty := type) hr hl hs' hx' h ht hu hsz hby hz c3 c2 c1 ht2 hu2 (by simp)
          exact wp_sem (hex (fun l => Builtin.append_ argTypes type l) (by rfl)) (by rw [hargs _ hl']; exact q1) q2 q3
        · rename_i q hu2
          simp only [Option.bind_eq_some_iff] at hu2
          obtain ⟨t2, ht2, hu2⟩ := hu2
          obtain ⟨m', v', w', q1, q2, q3⟩ := appZ_sound (P := P) (ty := type) hr hl hs' hx' h ht hu hsz hby hz c3 c2 c1 ht2 hu2
          exact wp_sem (hex (fun l => Builtin.append_ argTypes type l) (by rfl)) (by rw [hargs _ hl']; exact q1) q2 q3
        · cases h
      · rename_i d x hx
        rw [hx] at ha
        obtain ⟨d', r', hl', hd', hr'⟩ := ha.cases_cons
        obtain ⟨x', r2, rfl, hx', hr2⟩ := hr'.cases_cons
        obtain rfl := hr2.cases_nil
        split at h
        case h_2 => cases h
        rename_i t ht
        split at h
        case h_2 => cases h
        rename_i e hu
        split at h
        case h_2 => cases h
        rename_i sz hsz
        obtain ⟨w', q1, q2, q3⟩ := cpy_sound (P := P) (ty := type) hr hd' hx' h ht hu hsz
        exact wp_sem (hex (fun l => Builtin.copy_ argTypes type l) (by rfl)) (by rw [hargs _ hl']; exact q1) q2 q3
      · rename_i k x k' y hx
        rw [hx] at ha
        obtain ⟨d', r', hl', hd', hr'⟩ := ha.cases_cons
        obtain ⟨x', r2, rfl, hx', hr2⟩ := hr'.cases_cons
        obtain rfl := hr2.cases_nil
        split at h
        case isFalse => cases h
        rename_i hk
        subst hk
        simp only [Option.some.injEq, Prod.mk.injEq] at h
        obtain ⟨rfl, rfl⟩ := h
        rw [hd'.int_inv, hx'.int_inv] at hl'
        exact wp_sem (hex (fun l => Builtin.min_ argTypes type l) (by rfl)) (by rw [hargs _ hl']; simp [Builtin.min_, Builtin.min2]) (.flat rfl) (Step.refl hr)
      · rename_i k x k' y hx
        rw [hx] at ha
        obtain ⟨d', r', hl', hd', hr'⟩ := ha.cases_cons
        obtain ⟨x', r2, rfl, hx', hr2⟩ := hr'.cases_cons
        obtain rfl := hr2.cases_nil
        split at h
        case isFalse => cases h
        rename_i hk
        subst hk
        simp only [Option.some.injEq, Prod.mk.injEq] at h
        obtain ⟨rfl, rfl⟩ := h
        rw [hd'.int_inv, hx'.int_inv] at hl'
        exact wp_sem (hex (fun l => Builtin.max_ argTypes type l) (by rfl)) (by rw [hargs _ hl']; simp [Builtin.max_, Builtin.max2]) (.flat rfl) (Step.refl hr)
      · cases h
  all_goals cases h

theorem aop_sound {P : Program} {gl : Bool} {C : CallF} {m : Mp} {H H' : Heap} {w : World} {env : Env} {a : Act} {o : Oper} {v : Value} {Q : Exit → Act → World → Prop} (hC : CSound P gl C) (hg : GOK P gl m) (hE : ERel m env a)
    (hr : HRel m H w) (hl : MLow m H.n) (hok : o.op.operands.toList.all (okOpd P gl) = true) (h : aop P C env o.op H = some (v, H')) :
    o.wp P a w (fun a' w' => ∃ m' v', a' = a.put o.dst v' ∧ VRel m' v v' ∧ Step m H w m' H' w') Q :=
  aop_sound' hC hg (fun x hx => ev_sound hE hg (by rw [List.all_eq_true] at hok; exact hok x (by simpa using hx))) hr hl h

end Go.Eng
