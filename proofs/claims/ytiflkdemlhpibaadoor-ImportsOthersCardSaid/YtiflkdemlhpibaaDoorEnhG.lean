/- What computes. -/
import Derived.Test.YtiflkdemlhpibaaDoorEnhF
set_option linter.unusedVariables false
namespace Go.Eng
open Go

theorem run_eqGuard_other {P : Program} {w : World} {op : BinOp} {t : TypeId} {x y : Operand} {a b : Value} (h : (∀ c d, ¬ (a = .agg c ∧ b = .agg d)) ∧ ¬ (a = .nilIface ∧ b = .nilIface)) :
    (eqGuard op t x y a b).run P w = .ok () w := by
  unfold eqGuard
  split <;> simp
  all_goals (split <;> first | exact absurd ⟨rfl, rfl⟩ h.2 | exact absurd ⟨rfl, rfl⟩ (h.1 _ _) | rfl)

theorem intB_sound {P : Program} {w : World} {op : BinOp} {t : TypeId} {k : IntKind} {a b : Int} {v : Value} (hop : op ≠ .shl ∧ op ≠ .shr) (h : intB op k a b = some v) :
    (binOp op t (.int k a) (.int k b)).run P w = .ok v w ∧ flat1 v = true := by
  cases op <;> simp only [intB] at h <;> first
    | exact absurd rfl hop.1
    | exact absurd rfl hop.2
    | (split at h
       · cases h
       · rename_i hb; simp only [Option.some.injEq] at h; subst h; simp [binOp, Op.intDiv, hb, flat1])
    | (simp only [Option.some.injEq] at h; subst h; simp [binOp, Op.intArith, Op.intBits, Op.intCmp, flat1])
theorem shiftB_sound {P : Program} {w : World} {op : BinOp} {t : TypeId} {k yk : IntKind} {a b : Int} {v : Value} (hop : op = .shl ∨ op = .shr) (h : shiftB op k a b = some v) :
    (binOp op t (.int k a) (.int yk b)).run P w = .ok v w ∧ flat1 v = true := by
  unfold shiftB at h
  split at h
  · cases h
  · rename_i hb
    rcases hop with rfl | rfl <;> simp only [Option.some.injEq] at h <;> subst h <;> simp [binOp, Op.shift, hb, flat1]
theorem strB_sound {P : Program} {w : World} {op : BinOp} {t : TypeId} {a b : ByteArray} {v : Value} (h : strB op a b = some v) :
    (binOp op t (.string a) (.string b)).run P w = .ok v w ∧ flat1 v = true := by
  cases op <;> simp only [strB] at h <;> first
    | (cases h; done)
    | (split at h
       · cases h
       · rename_i hb; simp only [Option.some.injEq] at h; subst h; simp [binOp, Op.stringOp, flat1]; simpa using hb)
    | (simp only [Option.some.injEq] at h; subst h; simp [binOp, Op.stringOp, flat1])

/-! ### equality of plain values of many cells -/
/-- Where it answers at one world, it answers so at each, and leaves it alone. -/
def WF {α : Type} (P : Program) (s : Sem α) : Prop := ∀ w0 a w1, s.run P w0 = .ok a w1 → w1 = w0 ∧ ∀ w, s.run P w = .ok a w
section
variable {α β : Type} {P : Program}
theorem WF.pure (a : α) : WF P (Pure.pure a : Sem α) := fun w0 b w1 h => by simp at h; obtain ⟨rfl, rfl⟩ := h; exact ⟨rfl, fun w => rfl⟩
theorem WF.bind {s : Sem α} {f : α → Sem β} (hs : WF P s) (hf : ∀ a, WF P (f a)) : WF P (s >>= f) := fun w0 b w1 h => by
  rw [Sem.run_bind] at h
  cases hr : s.run P w0 with
  | halt x w => simp [hr] at h
  | ok a w =>
    rw [hr] at h
    simp only [Result.andThen] at h
    obtain ⟨rfl, h2⟩ := hs _ _ _ hr
    obtain ⟨rfl, h3⟩ := hf a _ _ _ h
    exact ⟨rfl, fun w => by rw [Sem.run_bind, h2 w]; exact h3 w⟩
theorem WF.bindR {s : Sem α} {f : α → Sem β} (hs : WF P s) (hf : ∀ a w w1, s.run P w = .ok a w1 → WF P (f a)) : WF P (s >>= f) := fun w0 b w1 h => by
  rw [Sem.run_bind] at h
  cases hr : s.run P w0 with
  | halt x w => simp [hr] at h
  | ok a w =>
    rw [hr] at h
    simp only [Result.andThen] at h
    obtain ⟨rfl, h2⟩ := hs _ _ _ hr
    obtain ⟨rfl, h3⟩ := hf a _ _ hr _ _ _ h
    exact ⟨rfl, fun w => by rw [Sem.run_bind, h2 w]; exact h3 w⟩
theorem WF.halt (x : Halt) : WF P (Sem.halt x : Sem α) := fun w0 b w1 h => by simp at h
theorem WF.of_run {s : Sem α} (h : ∀ w, ∀ a w1, s.run P w = .ok a w1 → False) : WF P s := fun w0 b w1 hh => (h _ _ _ hh).elim
theorem WF.ite {c : Prop} [Decidable c] {a b : Sem α} (ha : WF P a) (hb : WF P b) : WF P (if c then a else b) := by split <;> assumption
theorem WF.stuck (x : String) : WF P (Go.stuck x : Sem α) := fun w0 b w1 h => by simp at h
theorem WF.unsupported (x : Unsupported) : WF P (Go.unsupported x : Sem α) := fun w0 b w1 h => by simp at h
theorem WF.program : WF P Go.program := fun w0 b w1 h => by simp at h; obtain ⟨rfl, rfl⟩ := h; exact ⟨rfl, fun w => rfl⟩
theorem WF.typeInfo (t : TypeId) : WF P (Go.typeInfo t) := by
  unfold Go.typeInfo
  refine WF.program.bind fun p => ?_
  split
  · exact WF.pure _
  · exact WF.stuck _
theorem WF.underlying (t : TypeId) : WF P (Go.underlying t) := by
  unfold Go.underlying
  refine WF.program.bind fun p => ?_
  split
  · exact WF.pure _
  · exact WF.stuck _
theorem WF.sizeOf (t : TypeId) : WF P (Go.sizeOf t) := (WF.typeInfo t).bind fun _ => WF.pure _
theorem WF.isAgg (t : TypeId) : WF P (Go.isAgg t) := by
  unfold Go.isAgg
  refine (WF.underlying t).bind fun d => ?_
  split <;> exact WF.pure _
theorem WF.part (t : TypeId) (cs : Array Value) (off : Nat) : WF P (Go.part t cs off) := by
  unfold Go.part
  refine (WF.isAgg t).bind fun b => ?_
  split
  · exact (WF.sizeOf t).bind fun _ => WF.pure _
  · split
    · exact WF.pure _
    · exact WF.stuck _
theorem WF.forInL {γ : Type} (f : γ → β → Sem (ForInStep β)) (hf : ∀ a b, WF P (f a b)) : ∀ (l : List γ) (b : β), WF P (forIn l b f)
  | [], b => by simpa using WF.pure b
  | a :: l, b => by
    rw [List.forIn_cons]
    refine (hf a b).bind fun r => ?_
    cases r with
    | done b => exact WF.pure b
    | yield b => exact WF.forInL f hf l b
end

theorem part_flat {P : Program} {t : TypeId} {cs : Array Value} {off : Nat} {w w1 : World} {v : Value} (hf : cs.all flat1 = true) (h : (part t cs off).run P w = .ok v w1) : flat v = true := by
  have hsub : ∀ a b, (cs.extract a b).all flat1 = true := fun a b => by
    rw [Array.all_eq_true] at hf ⊢
    intro i hi
    simp at hi ⊢
    exact hf _ _
  unfold part at h
  rw [Sem.run_bind] at h
  cases hr : (isAgg t).run P w with
  | halt x w => simp [hr] at h
  | ok b w2 =>
    rw [hr] at h
    simp only [Result.andThen] at h
    cases b with
    | true =>
      simp only [if_true, Sem.run_bind] at h
      cases hs : (sizeOf t).run P w2 with
      | halt x w => simp [hs] at h
      | ok k w3 => simp [hs] at h; obtain ⟨rfl, _⟩ := h; exact hsub _ _
    | false =>
      simp only [Bool.false_eq_true, if_false] at h
      split at h
      · rename_i v' hv
        simp at h
        obtain ⟨rfl, _⟩ := h
        rw [Array.all_eq_true] at hf
        have hi := (Array.getElem?_eq_some_iff.1 hv)
        have := hf _ hi.1
        rw [hi.2] at this
        cases v' <;> first | exact this | (simp [flat1] at this; done)
      · simp at h

theorem equalIn_free {P : Program} : ∀ (d : Nat) (t : TypeId) (x y : Value), flat x = true → flat y = true → WF P (Op.equalIn d t x y)
  | 0, t, x, y, _, _ => by unfold Op.equalIn; exact WF.unsupported _
  | d + 1, t, x, y, hx, hy => by
    unfold Op.equalIn
    refine (WF.underlying t).bind fun dd => ?_
    split
    all_goals first
      | exact WF.pure _
      | exact WF.stuck _
      | exact WF.unsupported _
      | (split <;> first | exact WF.pure _ | exact WF.stuck _)
      | (simp [flat, flat1] at hx; done)
      | (simp [flat, flat1] at hy; done)
      | skip
    · rename_i a b
      cases a with
      | some a => simp [flat, flat1] at hx
      | none =>
        cases b with
        | some b => simp [flat, flat1] at hy
        | none => exact WF.pure _
    · rename_i fields xs ys
      have hxs : xs.all flat1 = true := by simpa [flat] using hx
      have hys : ys.all flat1 = true := by simpa [flat] using hy
      refine WF.program.bind fun p => ?_
      dsimp only
      refine WF.ite ((WF.unsupported _).bind fun u => ?_) ?_
      all_goals
        rw [← Array.forIn_toList]
        refine (WF.forInL _ (fun f b => ?_) _ _).bind fun r => ?_
        · refine WF.ite ?_ (WF.pure _)
          exact (WF.part _ _ _).bindR fun a w w1 ha => (WF.part _ _ _).bindR fun b w2 w3 hb => (equalIn_free d _ _ _ (part_flat hxs ha) (part_flat hys hb)).bind fun r => WF.ite (WF.pure _) (WF.pure _)
        · split <;> exact WF.pure _
    · rename_i len elem xs ys
      have hxs : xs.all flat1 = true := by simpa [flat] using hx
      have hys : ys.all flat1 = true := by simpa [flat] using hy
      refine (WF.sizeOf _).bind fun n => ?_
      rw [Std.Legacy.Range.forIn_eq_forIn_range']
      refine (WF.forInL _ (fun f b => ?_) _ _).bind fun r => ?_
      · exact (WF.part _ _ _).bindR fun a w w1 ha => (WF.part _ _ _).bindR fun b w2 w3 hb => (equalIn_free d _ _ _ (part_flat hxs ha) (part_flat hys hb)).bind fun r => WF.ite (WF.pure _) (WF.pure _)
      · dsimp only; split <;> exact WF.pure _

theorem equal_succ {t : TypeId} {x y : Value} : Op.equal t x y = Op.equalIn (9999 + 1) t x y := rfl
theorem eqV_sound {P : Program} {m : Mp} {w : World} {t : TypeId} {x x' y y' : Value} {xo yo : Operand} {op : BinOp} {b : Bool} (hx : VRel m x x') (hy : VRel m y y') (h : eqV P t x y = some b) :
    (eqGuard op t xo yo x' y').run P w = .ok () w ∧ (Op.equal t x' y').run P w = .ok b w ∧ (∀ k n, x' ≠ .int k n) ∧ (∀ s, x' ≠ .string s) ∧ (∀ k n, x' ≠ .float k n) ∧ (∀ k a b, x' ≠ .complex k a b) := by
  unfold eqV at h
  split at h
  · rename_i hu
    obtain rfl := hx.bool_inv
    obtain rfl := hy.bool_inv
    simp only [Option.some.injEq] at h; subst h
    refine ⟨run_eqGuard_other (by simp), ?_, by simp, by simp, by simp, by simp⟩
    rw [equal_succ, Op.equalIn]; simp [run_underlying hu]
  · rename_i a hu
    have e1 : ∃ a', x' = .pointer a' ∧ a'.isNone = a.isNone := by
      cases hx with
      | flat hf => exact ⟨_, rfl, rfl⟩
      | ptr => exact ⟨_, rfl, rfl⟩
    obtain ⟨a', rfl, e1⟩ := e1
    obtain rfl := hy.eq_of_flat1 rfl
    simp only [Option.some.injEq] at h; subst h
    refine ⟨run_eqGuard_other (by simp), ?_, by simp, by simp, by simp, by simp⟩
    rw [equal_succ, Op.equalIn]; cases a' <;> simp [run_underlying hu] <;> simpa using e1
  · rename_i b' _ hu
    have e1 : ∃ a', y' = .pointer a' ∧ a'.isNone = b'.isNone := by
      cases hy with
      | flat hf => exact ⟨_, rfl, rfl⟩
      | ptr => exact ⟨_, rfl, rfl⟩
    obtain ⟨a', rfl, e1⟩ := e1
    obtain rfl := hx.eq_of_flat1 rfl
    simp only [Option.some.injEq] at h; subst h
    refine ⟨run_eqGuard_other (by simp), ?_, by simp, by simp, by simp, by simp⟩
    rw [equal_succ, Op.equalIn]; cases a' <;> simp [run_underlying hu] <;> simpa using e1
  · rename_i a n c n' c' hu
    have e1 : ∃ a' c2, x' = .slice a' n c2 ∧ a'.isNone = a.isNone := by
      cases hx with
      | flat hf => exact ⟨_, _, rfl, rfl⟩
      | slc => exact ⟨_, _, rfl, rfl⟩
      | slx => exact ⟨_, _, rfl, rfl⟩
      | sl0 => exact ⟨_, _, rfl, rfl⟩
    obtain ⟨a', c2, rfl, e1⟩ := e1
    obtain ⟨_, _, rfl⟩ := hy.slice_nil_inv
    simp only [Option.some.injEq] at h; subst h
    refine ⟨run_eqGuard_other (by simp), ?_, by simp, by simp, by simp, by simp⟩
    rw [equal_succ, Op.equalIn]; cases a' <;> simp [run_underlying hu] <;> simpa using e1
  · rename_i n c a n' c' _ hu
    have e1 : ∃ a' c2, y' = .slice a' n' c2 ∧ a'.isNone = a.isNone := by
      cases hy with
      | flat hf => exact ⟨_, _, rfl, rfl⟩
      | slc => exact ⟨_, _, rfl, rfl⟩
      | slx => exact ⟨_, _, rfl, rfl⟩
      | sl0 => exact ⟨_, _, rfl, rfl⟩
    obtain ⟨a', c2, rfl, e1⟩ := e1
    obtain ⟨_, _, rfl⟩ := hx.slice_nil_inv
    simp only [Option.some.injEq] at h; subst h
    refine ⟨run_eqGuard_other (by simp), ?_, by simp, by simp, by simp, by simp⟩
    rw [equal_succ, Op.equalIn]; cases a' <;> simp [run_underlying hu] <;> simpa using e1
  · rename_i a hu
    have e1 : ∃ a', x' = .map a' ∧ a'.isNone = a.isNone := by
      cases hx with
      | flat hf => exact ⟨_, rfl, rfl⟩
      | mapv => exact ⟨_, rfl, rfl⟩
    obtain ⟨a', rfl, e1⟩ := e1
    obtain rfl := hy.eq_of_flat1 rfl
    simp only [Option.some.injEq] at h; subst h
    refine ⟨run_eqGuard_other (by simp), ?_, by simp, by simp, by simp, by simp⟩
    rw [equal_succ, Op.equalIn]; cases a' <;> simp [run_underlying hu] <;> simpa using e1
  · rename_i a _ hu
    have e1 : ∃ a', y' = .map a' ∧ a'.isNone = a.isNone := by
      cases hy with
      | flat hf => exact ⟨_, rfl, rfl⟩
      | mapv => exact ⟨_, rfl, rfl⟩
    obtain ⟨a', rfl, e1⟩ := e1
    obtain rfl := hx.eq_of_flat1 rfl
    simp only [Option.some.injEq] at h; subst h
    refine ⟨run_eqGuard_other (by simp), ?_, by simp, by simp, by simp, by simp⟩
    rw [equal_succ, Op.equalIn]; cases a' <;> simp [run_underlying hu] <;> simpa using e1
  all_goals first
    | (cases h; done)
    | (rename_i a b _
       unfold eqA at h
       split at h
       case isFalse => cases h
       rename_i hc
       simp only [Bool.and_eq_true, Bool.not_eq_true'] at hc
       split at h
       case h_2 => cases h
       rename_i b' w1 hrun
       simp only [Option.some.injEq] at h; subst h
       have ex : x' = .agg a := by
         obtain ⟨cs', rfl, hl⟩ := hx.agg_inv
         have := hl.eq_flat (by simpa [flat, Array.all_toList] using hc.1.1)
         congr 1; exact Array.ext' this
       have ey : y' = .agg b := by
         obtain ⟨cs', rfl, hl⟩ := hy.agg_inv
         have := hl.eq_flat (by simpa [flat, Array.all_toList] using hc.1.2)
         congr 1; exact Array.ext' this
       subst ex; subst ey
       refine ⟨?_, ((equalIn_free _ _ _ _ hc.1.1 hc.1.2) _ _ _ hrun).2 w, by simp, by simp, by simp, by simp⟩
       unfold eqGuard
       split <;> simp [hc.2])

theorem binB_sound {P : Program} {m : Mp} {w : World} {t : TypeId} {x x' y y' v : Value} {xo yo : Operand} {op : BinOp} (hx : VRel m x x') (hy : VRel m y y') (h : binB P op t x y = some v) :
    (do eqGuard op t xo yo x' y'; binOp op t x' y' : Sem Value).run P w = .ok v w ∧ VRel m v v := by
  unfold binB at h
  split at h
  · rename_i k a k' b
    obtain rfl := hx.int_inv
    obtain rfl := hy.int_inv
    rw [Sem.run_bind, run_eqGuard_other (by simp)]
    simp only [Result.andThen]
    split at h
    · obtain ⟨h1, h2⟩ := shiftB_sound (P := P) (w := w) (t := t) (yk := k') (.inl rfl) h
      exact ⟨h1, .flat h2⟩
    · obtain ⟨h1, h2⟩ := shiftB_sound (P := P) (w := w) (t := t) (yk := k') (.inr rfl) h
      exact ⟨h1, .flat h2⟩
    · rename_i n1 n2
      split at h
      case isFalse => cases h
      rename_i hk
      subst hk
      obtain ⟨h1, h2⟩ := intB_sound (P := P) (w := w) (t := t) ⟨n1, n2⟩ h
      exact ⟨h1, .flat h2⟩
  · obtain rfl := hx.string_inv
    obtain rfl := hy.string_inv
    rw [Sem.run_bind, run_eqGuard_other (by simp)]
    simp only [Result.andThen]
    obtain ⟨h1, h2⟩ := strB_sound (P := P) (w := w) (t := t) h
    exact ⟨h1, .flat h2⟩
  · have key : ∀ (o : BinOp) (b : Bool), o = .eql ∨ o = .neq → eqV P t x y = some b → (do eqGuard o t xo yo x' y'; binOp o t x' y' : Sem Value).run P w = .ok (.bool (if o = .eql then b else !b)) w := fun o b ho hb => by
      obtain ⟨g1, g2, g3, g4, g5, g6⟩ := eqV_sound (w := w) (xo := xo) (yo := yo) (op := o) hx hy hb
      rw [Sem.run_bind, g1]
      simp only [Result.andThen]
      have : binOp o t x' y' = (if o = .eql then (do pure (.bool (← Op.equal t x' y'))) else (do pure (.bool (!(← Op.equal t x' y')))) : Sem Value) := by
        rcases ho with rfl | rfl
        · cases x' <;> first | exact absurd rfl (g3 _ _) | exact absurd rfl (g4 _) | exact absurd rfl (g5 _ _) | exact absurd rfl (g6 _ _ _) | (simp [binOp])
        · cases x' <;> first | exact absurd rfl (g3 _ _) | exact absurd rfl (g4 _) | exact absurd rfl (g5 _ _) | exact absurd rfl (g6 _ _ _) | (simp [binOp])
      rw [this]
      rcases ho with rfl | rfl <;> simp [g2]
    split at h
    · simp only [Option.map_eq_some_iff] at h
      obtain ⟨b, hb, rfl⟩ := h
      exact ⟨by simpa using key .eql b (.inl rfl) hb, .flat rfl⟩
    · simp only [Option.map_eq_some_iff] at h
      obtain ⟨b, hb, rfl⟩ := h
      exact ⟨by simpa using key .neq b (.inr rfl) hb, .flat rfl⟩
    · cases h

theorem unB_sound {P : Program} {m : Mp} {w : World} {x x' v : Value} {op : UnOp} (hx : VRel m x x') (h : unB op x = some v) : (Op.unary op x').run P w = .ok v w ∧ VRel m v v := by
  unfold unB at h
  split at h
  · obtain rfl := hx.int_inv
    simp only [Option.some.injEq] at h; subst h
    exact ⟨by simp [Op.unary, Op.intArith], .flat rfl⟩
  · obtain rfl := hx.int_inv
    simp only [Option.some.injEq] at h; subst h
    exact ⟨by simp [Op.unary, Op.intBits], .flat rfl⟩
  · obtain rfl := hx.bool_inv
    simp only [Option.some.injEq] at h; subst h
    exact ⟨by simp [Op.unary], .flat rfl⟩
  · cases h

theorem lenB_sound {P : Program} {m : Mp} {w : World} {x x' v : Value} {t ty : TypeId} {ts : Array TypeId} (hx : VRel m x x') (h0 : ts[0]? = some t) (h : lenB P t x = some v) : (Builtin.len_ ts ty #[x']).run P w = .ok v w ∧ VRel m v v := by
  unfold lenB at h
  split at h
  · rename_i s hu
    obtain rfl := hx.string_inv
    simp only [Option.some.injEq] at h; subst h
    exact ⟨by simp [Builtin.len_, h0, run_underlying hu, goInt], .flat rfl⟩
  · rename_i n e hu
    simp only [Option.some.injEq] at h; subst h
    exact ⟨by simp [Builtin.len_, h0, run_underlying hu, goInt], .flat rfl⟩
  · rename_i e a n c hu
    simp only [Option.some.injEq] at h; subst h
    have : ∃ a' c', x' = .slice a' n c' := by
      cases hx with
      | flat hf => exact ⟨_, _, rfl⟩
      | slc => exact ⟨_, _, rfl⟩
      | slx => exact ⟨_, _, rfl⟩
      | sl0 => exact ⟨_, _, rfl⟩
    obtain ⟨a', c', rfl⟩ := this
    exact ⟨by simp [Builtin.len_, h0, run_underlying hu, goInt], .flat rfl⟩
  · cases h

theorem capB_sound {P : Program} {m : Mp} {w : World} {x x' v : Value} {t ty : TypeId} {ts : Array TypeId} (hx : VRel m x x') (h0 : ts[0]? = some t) (h : capB P t x = some v) : (Builtin.cap_ ts ty #[x']).run P w = .ok v w ∧ VRel m v v := by
  unfold capB at h
  split at h
  · rename_i n e hu
    simp only [Option.some.injEq] at h; subst h
    exact ⟨by simp [Builtin.cap_, h0, run_underlying hu, goInt], .flat rfl⟩
  · rename_i e a n hu
    simp only [Option.some.injEq] at h; subst h
    obtain ⟨rfl, rfl, rfl⟩ := hx.slice_nil_inv
    exact ⟨by simp [Builtin.cap_, h0, run_underlying hu, goInt], .flat rfl⟩
  · rename_i e b o k n c hu
    simp only [Option.some.injEq] at h; subst h
    have : ∃ a', x' = .slice a' n c := by
      rcases hx.slice_inv with ⟨rfl, rfl, a', rfl⟩ | ⟨p, cap', hp, rfl, g1, g2, g3, g4⟩
      · exact ⟨_, rfl⟩
      · rcases g4 with g4 | g4
        · cases g4
        · rw [g4.2]; exact ⟨_, rfl⟩
    obtain ⟨a', rfl⟩ := this
    exact ⟨by simp [Builtin.cap_, h0, run_underlying hu, goInt], .flat rfl⟩
  · cases h

end Go.Eng
